/-
  ledger.Ledger: what it holds; New, Commit, Get, Trace.
-/
import Derived.Test.YtdcfnhggedeeiaaCommits
import Derived.Test.YtdcfnhggedeeiaaMaps
import Derived.Test.YtdcfnhggedeeiaaIdentValid
namespace Go.Proofs.Ytdcfnhggedeeiaa
open Go.RowKit
set_option linter.unusedVariables false
set_option linter.unusedSimpArgs false

noncomputable abbrev idKey : KeyKind Try.prog 27 ByteArray := strKey Try.underlying27

/-- Where a name stands among commits. -/
def atI (T : List Cm) (a : ByteArray) : Option Nat := T.findIdx? (fun c => decide (c.1 = a))
def atF (T : List Cm) (a : ByteArray) : Option Value := (atI T a).map fun k => .int .i64 k
theorem atI_snoc {T : List Cm} {c : Cm} (h : atI T c.1 = none) (a : ByteArray) : atI (T ++ [c]) a = if a = c.1 then some T.length else atI T a := by
  unfold atI at *
  rw [List.findIdx?_append]
  by_cases ha : a = c.1
  · subst ha
    rw [h, if_pos rfl]
    simp
  · rw [if_neg ha]
    have : List.findIdx? (fun x : Cm => decide (x.1 = a)) [c] = none := by simp [List.findIdx?_cons]; exact fun e => ha e.symm
    rw [this]
    simp
theorem atF_snoc {T : List Cm} {c : Cm} (h : atI T c.1 = none) (a : ByteArray) : (if a = c.1 then some (Value.int .i64 T.length) else atF T a) = atF (T ++ [c]) a := by
  unfold atF
  rw [atI_snoc h]
  split <;> rfl
theorem atI_none {T : List Cm} {a : ByteArray} : atI T a = none ↔ ∀ c ∈ T, c.1 ≠ a := by
  unfold atI
  rw [List.findIdx?_eq_none_iff]
  simp
theorem atI_some {T : List Cm} {a : ByteArray} {k : Nat} (h : atI T a = some k) : ∃ c, T[k]? = some c ∧ c.1 = a := by
  unfold atI at h
  rw [List.findIdx?_eq_some_iff_getElem] at h
  obtain ⟨h1, h2, _⟩ := h
  exact ⟨T[k], List.getElem?_eq_getElem h1, by simpa using h2⟩

/-- Block g is a ledger of the commits T; F: the blocks that it uses. -/
structure Led (w : World) (F : Nat → Prop) (g mw : Nat) (T : List Cm) : Prop where
  mk_ ::
  is : ∃ A c m1, Blk w g 42 #[.slice A T.length c, .map (some m1), .map (some mw)] ∧ OwnR rkC w 0 (.slice A T.length c) T.length (cv T) ∧ Mp idKey w m1 T.length (atF T) ∧ F g ∧ F m1 ∧ (∀ b, (Value.slice A T.length c).ownBlock = some b → F b)
  lt : ∀ b, F b → b < w.heap.size

theorem Led.chg {w w2 : World} {F S : Nat → Prop} {g mw : Nat} {T : List Cm} (h : Led w F g mw T) (hc : Chg S w w2) (hs : ∀ b, F b → ¬ S b) : Led w2 F g mw T := by
  obtain ⟨⟨A, c, m1, hb, ho, hm, h1, h2, h4⟩, h5⟩ := h
  exact ⟨⟨A, c, m1, hb.chg hc (hs _ h1), ho.chg hc (fun b e => hs _ (h4 b e)), hm.chg hc (hs _ h2), h1, h2, h4⟩, fun b hb => Nat.lt_of_lt_of_le (h5 b hb) hc.size⟩
theorem Led.non {w w2 : World} {F : Nat → Prop} {g mw : Nat} {T : List Cm} (h : Led w F g mw T) (hc : Chg Non w w2) : Led w2 F g mw T := h.chg hc fun _ _ => id

theorem ledNew_any (w : World) : Calls Try.prog 7 #[] w fun e w2 => ∃ g mw, e = .returned (.pointer (some ⟨g, 0, none⟩)) ∧ Led w2 (fun b => w.heap.size ≤ b ∧ b < w2.heap.size ∧ b ≠ mw) g mw [] ∧ Mp idKey w2 mw 0 (fun _ => none) ∧ w.heap.size ≤ mw ∧ mw < w2.heap.size ∧ Chg Non w w2 := by
  have hmm := @run_makeMap Try.prog
  go_enter Try.func7, Try.ntmps7
  go_wp2_with fail
  go_ret
  have hC := (((Chg.refl Non w).alloc (.map #[] 0)).alloc (.map #[] 0)).alloc (.cells #[.slice none 0 0, .map (some w.heap.size), .map (some (w.heap.size + 1))] 42)
  have hm2 := Mp.made idKey (w.alloc (.map #[] 0))
  rw [World.size_alloc] at hm2
  refine ⟨w.heap.size + 2, w.heap.size + 1, rfl, ⟨⟨none, 0, w.heap.size, ?_, OwnR.nil _ _ _, (((Mp.made idKey w).alloc _).alloc _).congr fun a => rfl, ?_, ?_, ?_⟩, fun b hb => hb.2.1⟩, (hm2.alloc _).congr (fun a => rfl), by omega, by simp, hC⟩
  · have := Blk.new ((w.alloc (.map #[] 0)).alloc (.map #[] 0)) 42 #[.slice none 0 0, .map (some w.heap.size), .map (some (w.heap.size + 1))]
    simpa using this
  · exact ⟨by omega, by simp, by omega⟩
  · exact ⟨by omega, by simp; omega, by omega⟩
  · intro b hb; simp [Value.ownBlock] at hb

theorem Led.len {w : World} {F : Nat → Prop} {g mw : Nat} {T : List Cm} (h : Led w F g mw T) : T.length ≤ maxLen := by
  obtain ⟨⟨A, c, m1, hb, ho, _⟩, _⟩ := h
  obtain ⟨A2, c2, e, h1, h2, _⟩ := ho.open_
  exact Nat.le_trans h1 h2

set_option maxRecDepth 100000 in
set_option maxHeartbeats 400000 in
/-- Commit of a name that is there already, or of none. -/
theorem ledCommit_no (w : World) (F : Nat → Prop) (g mw : Nat) (T : List Cm) (id : ByteArray) (x y : Int) (h : Led w F g mw T) (hid : id.size ≤ maxLen) (hno : vid id = false ∨ ∃ k, atI T id = some k) :
    Calls Try.prog 8 #[.pointer (some ⟨g, 0, none⟩), .string id, .agg #[.int .i64 x, .int .i64 y]] w fun e w2 => e = .returned (.bool false) ∧ Chg Non w w2 := by
  obtain ⟨⟨A, c, m1, hb, ho, hm, h1, h2, h4⟩, h5⟩ := h
  have hC : Chg Non w (w.alloc (.cells #[.int .i64 x, .int .i64 y] 31)) := (Chg.refl _ _).alloc _
  have c1 := (hb.non hC).cell 1
  simp only [List.getElem?_toArray, List.getElem?_cons_zero, List.getElem?_cons_succ] at c1
  have hg := hb.lt
  have hm1 := hm.non hC
  cases ha : atI T id with
  | some k =>
    have hk : atF T id = some (.int .i64 k) := by unfold atF; rw [ha]; rfl
    have q1 := hm1.look_okS Try.underlying37 (z := .int .i64 0) (by kernel_rfl) hid hk
    simp only [Option.getD_some, Option.isSome_some] at q1
    clear hk ha hno hm ho hb hm1
    go_enter Try.func8, Try.ntmps8
    go_wp2_with fail
    go_ret
    exact ⟨rfl, hC⟩
  | none =>
    have hk : atF T id = none := by unfold atF; rw [ha]; rfl
    have hv : vid id = false := by
      rcases hno with h | ⟨k, h⟩
      · exact h
      · rw [ha] at h; cases h
    have q1 := hm1.look_okS Try.underlying37 (z := .int .i64 0) (by kernel_rfl) hid hk
    simp only [Option.getD_none, Option.isSome_none] at q1
    have Hv := Lib.hid hv
    clear hk ha hno hm ho hb hv hm1
    go_enter Try.func8, Try.ntmps8
    go_wp2_with fail
    refine (valid_any id _).mono ?_
    rintro e w9 ⟨rfl, rfl⟩
    rw [Hv.out]
    go_wp2_with fail
    go_ret
    exact ⟨rfl, hC⟩

set_option maxRecDepth 100000 in
set_option maxHeartbeats 1000000 in
/-- Commit of a new name. -/
theorem ledCommit_yes (w : World) (F : Nat → Prop) (g mw : Nat) (T : List Cm) (id : ByteArray) (x y : Int) (h : Led w F g mw T) (hv : vid id = true) (hno : atI T id = none) (hT : T.length ≤ 1000000) :
    Calls Try.prog 8 #[.pointer (some ⟨g, 0, none⟩), .string id, .agg #[.int .i64 x, .int .i64 y]] w fun e w2 => e = .returned (.bool true) ∧ ∃ F2, Led w2 F2 g mw (T ++ [(id, x, y)]) ∧ (∀ b, F2 b → F b ∨ w.heap.size ≤ b) ∧ Chg F w w2 := by
  have hid : id.size ≤ maxLen := by have := vid_small hv; unfold maxLen; omega
  obtain ⟨⟨A, c, m1, hb, ho, hm, h1, h2, h4⟩, h5⟩ := h
  have hk : atF T id = none := by unfold atF; rw [hno]; rfl
  have hno' := Lib.hid hno
  have Hv := Lib.hid hv
  obtain ⟨w1, hw1⟩ : ∃ w1, w.alloc (.cells #[.int .i64 x, .int .i64 y] 31) = w1 := ⟨_, rfl⟩
  have hC : Chg Non w w1 := hw1 ▸ (Chg.refl _ _).alloc _
  have hbox : Blk w1 w.heap.size 31 #[.int .i64 x, .int .i64 y] := hw1 ▸ Blk.new _ _ _
  have hlt1 := hC.size
  have hb1 := hb.non hC
  have hm1 := hm.non hC
  have ho1 := ho.non hC
  have q1 := hm1.look_okS Try.underlying37 (z := .int .i64 0) (by kernel_rfl) hid hk
  simp only [Option.getD_none, Option.isSome_none] at q1
  have c1 := hb1.cell 1
  simp only [List.getElem?_toArray, List.getElem?_cons_zero, List.getElem?_cons_succ] at c1
  have k0 : ∀ w, Chg Non w1 w → w.cell? ⟨g, 0, none⟩ = some (.slice A T.length c) := fun w h => (hb1.non h).cell 0
  have k1 : ∀ w, Chg Non w1 w → w.cell? ⟨g, 1, none⟩ = some (.map (some m1)) := fun w h => (hb1.non h).cell 1
  have hg := hb.lt
  have hgm : m1 ≠ g := hm.apart hb
  have Hnew := Lib.hid hk
  clear hk hno hv hb hm ho
  go_enter Try.func8, Try.ntmps8
  go_wp2_with fail
  refine (valid_any id _).mono ?_
  rintro e w9 ⟨rfl, rfl⟩
  rw [Hv.out]
  clear hw1 q1 c1
  go_wp2_with fail
  refine st_region_tail 8 12 Non [] [] (fun _ _ _ _ => True) (fun _ _ _ _ => True) (fun _ _ _ => True) (fun _ => True) (by kernel_rfl) (by kernel_rfl) (by kernel_rfl) (fun _ h => h.elim) trivial (fun _ _ _ => trivial) ?_
  repeat (first | (refine st_pass (by rfl) ?_; simp only [Act.put, List.setIfInBounds_toArray, List.set_cons_succ, List.set_cons_zero]) | (refine st_plain (Non) (w1) rfl rfl (f := ?_) (by rfl) rfl rfl (fun w hC hG => ?_) ?_; rotate_left; (clear hG; first | (go_simp; done) | (go_simp; with_reducible rfl) | (simp [*, go_sem, ↓IntWalk.iteOmega]; done) | (simp [*, go_sem, ↓IntWalk.iteOmega]; with_reducible rfl)); simp only [Act.put, List.setIfInBounds_toArray, List.set_cons_succ, List.set_cons_zero]))
  refine st_tail Non w1 rfl rfl rfl (fun w5 hC5 _ _ => ?_)
  simp only [List.drop_succ_cons, List.drop_zero]
  refine wp_store_Mp (K := idKey) rfl (.tmp 29) (.tmp 30) (.tmp 36) 37 rfl (hm1.non hC5) Try.underlying37 (by unfold maxLen; omega) rfl (b := id) hid rfl (u := .int .i64 T.length) rfl ?_
  intro w6 hm6 hc6
  rw [Hnew.out] at hm6
  simp only [Option.isSome_none, Bool.false_eq_true, if_false] at hm6
  simp only [Act.put, List.setIfInBounds_toArray, List.set_cons_succ, List.set_cons_zero]
  have hb6 := (hb1.non hC5).chg hc6 (fun e => hgm e.symm)
  have hom : ∀ b, (Value.slice A T.length c).ownBlock = some b → b ≠ m1 := by
    intro b hb e
    subst e
    rcases ho1.2 with ⟨h, _⟩ | ⟨g2, cap, cur, h, _, hh, _⟩
    · rw [h] at hb; simp [Value.ownBlock] at hb
    · rw [h] at hb
      have : g2 = b := by simpa [Value.ownBlock] using hb
      subst this
      exact hm1.apart (t := rkC.e) hh rfl
  have hog : ∀ b, (Value.slice A T.length c).ownBlock = some b → b ≠ g := fun b hb e => ho1.apart hb1 (by decide) (e ▸ hb)
  have ho6 : OwnR rkC w6 0 (.slice A T.length c) T.length (cv T) := (ho1.non hC5).chg hc6 (fun b hb e => hom b hb e)
  have hbox6 := (hbox.non hC5).chg hc6 (fun e => by have := h5 _ h2; omega)
  have hC6 : Chg F w w6 := (hC.non hC5).of_non.trans2 hc6 (fun b e => .inl (by have e : b = m1 := e; rw [e]; exact h2))
  have hm6b := hm6
  have k0 : ∀ w2, Chg (fun b => (Value.slice A T.length c).ownBlock = some b) w6 w2 → w2.cell? ⟨g, 0, none⟩ = some (.slice A T.length c) := fun w2 h => h.cell (hb6.cell 0) (fun e => hog _ e rfl)
  have kx0 : ∀ w2, Chg (fun b => (Value.slice A T.length c).ownBlock = some b) w6 w2 → w2.cell? ⟨w.heap.size, 0, none⟩ = some (.int .i64 x) := fun w2 h => h.cell (hbox6.cell 0) (fun e => by have := h5 _ (h4 _ e); simp at this)
  have kx1 : ∀ w2, Chg (fun b => (Value.slice A T.length c).ownBlock = some b) w6 w2 → w2.cell? ⟨w.heap.size, 1, none⟩ = some (.int .i64 y) := fun w2 h => h.cell (hbox6.cell 1) (fun e => by have := h5 _ (h4 _ e); simp at this)
  have hlt6 : w.heap.size < w6.heap.size := by have := hbox6.lt; omega
  clear hm1 hb1 ho1 k1 hc6 hC5 hC
  go_wp2_with fail
  refine st_region_tail 8 14 (fun b => (Value.slice A T.length c).ownBlock = some b) [10] [9] (fun _ _ v w2 => OwnR rkC w2 0 v (T.length + 1) (cv T ++ cellC (id, x, y)) ∧ (∀ b, v.ownBlock = some b → (Value.slice A T.length c).ownBlock = some b ∨ w6.heap.size ≤ b)) (fun _ _ _ _ => True) (fun _ _ v => ∃ A n c, v = .slice A n c) (fun w2 => OwnR rkC w2 0 (.slice A T.length c) T.length (cv T)) (by kernel_rfl) (by kernel_rfl) (by kernel_rfl) (fun b h => Nat.lt_of_lt_of_le (h5 b (h4 b h)) (by omega)) ho6 (fun _ _ h => h.alloc _) ?_
  repeat (first | (refine st_pass (by rfl) ?_; simp only [Act.put, List.setIfInBounds_toArray, List.set_cons_succ, List.set_cons_zero]) | (refine st_plain (fun b => (Value.slice A T.length c).ownBlock = some b) (w6) rfl rfl (f := ?_) (by rfl) rfl rfl (fun w hC hG => ?_) ?_; rotate_left; (clear hG; first | (go_simp; done) | (go_simp; with_reducible rfl) | (simp [*, go_sem, ↓IntWalk.iteOmega]; done) | (simp [*, go_sem, ↓IntWalk.iteOmega]; with_reducible rfl)); simp only [Act.put, List.setIfInBounds_toArray, List.set_cons_succ, List.set_cons_zero]))
  refine st_minor (fun b => (Value.slice A T.length c).ownBlock = some b) w6 rfl rfl (ob := .cells #[.string id, .int .i64 x, .int .i64 y] 33) (kd := some (1, 1)) (by rfl) rfl rfl (fun w hC hG => by clear hG; go_simp; rfl) (fun g2 => ?_)
  simp only [Act.put, List.setIfInBounds_toArray, List.set_cons_succ, List.set_cons_zero]
  refine st_major (fun b => (Value.slice A T.length c).ownBlock = some b) (w6) rfl rfl (by rfl) rfl (⟨.slice none 0 0, none, 0, 0, rfl⟩) (fun _ _ _ _ _ _ => trivial) (fun v w ob h => ⟨h.1.alloc ob, h.2⟩) (fun w hC hG hS => ?_) ?_
  · have hB := Rds.blockN (m := 1) (size := 3) (show Blk w g2 33 #[.string id, .int .i64 x, .int .i64 y] from (hG 9 rfl).2) rfl
    refine settle_appR (K := rkC) (.tmp 42) (.tmp 46) rfl hS rfl hB rfl (cellC_one (id, x, y)) (by omega) (Nat.zero_le _) ?_
    intro v2 w2 h2 h3 h4
    obtain ⟨A2, c2, rfl, _⟩ := h2.open_
    refine ⟨⟨_, _, _, rfl⟩, h3, ⟨h2, fun b hb => ?_⟩, trivial⟩
    rcases h4 with h4 | h4
    · exact .inl (h4 ▸ hb)
    · rw [h4] at hb
      obtain rfl := Option.some.inj hb
      exact .inr hC.size
  · rintro v4 ⟨A4, n4, c4, rfl⟩
    simp only [Act.put, List.setIfInBounds_toArray, List.set_cons_succ, List.set_cons_zero]
    repeat (first | (refine st_pass (by rfl) ?_; simp only [Act.put, List.setIfInBounds_toArray, List.set_cons_succ, List.set_cons_zero]) | (refine st_plain (fun b => (Value.slice A T.length c).ownBlock = some b) (w6) rfl rfl (f := ?_) (by rfl) rfl rfl (fun w hC hG => ?_) ?_; rotate_left; (clear hG; first | (go_simp; done) | (go_simp; with_reducible rfl) | (simp [*, go_sem, ↓IntWalk.iteOmega]; done) | (simp [*, go_sem, ↓IntWalk.iteOmega]; with_reducible rfl)); simp only [Act.put, List.setIfInBounds_toArray, List.set_cons_succ, List.set_cons_zero]))
    refine st_tail (fun b => (Value.slice A T.length c).ownBlock = some b) w6 rfl rfl rfl (fun w7 hC7 hS7 _ => ?_)
    simp only [List.drop_succ_cons, List.drop_zero]
    obtain ⟨ho7, hob7⟩ := hS7
    obtain rfl : n4 = T.length + 1 := by
      obtain ⟨A5, c5, e, _⟩ := ho7.open_
      injection e
    have hb7 := hb6.chg hC7 (fun e => hog _ e rfl)
    have c0 := hb7.cell 0
    have f0 := hb7.frozen 0
    simp only [List.getElem?_toArray, List.getElem?_cons_zero, List.getElem?_cons_succ] at c0
    have hm7 := hm6b.chg hC7 (fun e => hom _ e rfl)
    have hC8 := (hC6.trans2 hC7 (fun b e => .inl (h4 b e))).setCell (p := ⟨g, 0, none⟩) (.inl h1) (.slice A4 (T.length + 1) c4)
    have hfin : ∃ F2, Led (w7.setCell ⟨g, 0, none⟩ (.slice A4 (T.length + 1) c4)) F2 g mw (T ++ [(id, x, y)]) ∧ (∀ b, F2 b → F b ∨ w.heap.size ≤ b) := by
      have hlen : (T ++ [(id, x, y)]).length = T.length + 1 := by simp
      have hS1 : Chg (fun b => b = g) w7 (w7.setCell ⟨g, 0, none⟩ (.slice A4 (T.length + 1) c4)) := (Chg.refl _ _).set1 0 _
      have hb8 := hb7.put 0 (.slice A4 (T.length + 1) c4)
      simp only [List.setIfInBounds_toArray, List.set_cons_zero] at hb8
      have ho8 : OwnR rkC (w7.setCell ⟨g, 0, none⟩ (.slice A4 (T.length + 1) c4)) 0 (.slice A4 (T.length + 1) c4) (T.length + 1) (cv (T ++ [(id, x, y)])) := by
        rw [cv_snoc]
        exact ho7.chg hS1 (fun b hb e => ho7.apart hb7 (by decide) (by rw [hb, show b = g from e]))
      have hm8 := (hm7.chg hS1 (fun e => hgm e)).congr (f2 := atF (T ++ [(id, x, y)])) (atF_snoc (c := (id, x, y)) hno'.out)
      refine ⟨fun b => F b ∨ (Value.slice A4 (T.length + 1) c4).ownBlock = some b, ⟨⟨A4, c4, m1, by rw [hlen]; exact hb8, by rw [hlen]; exact ho8, by rw [hlen]; exact hm8, .inl h1, .inl h2, by rw [hlen]; exact fun b hb => .inr hb⟩, ?_⟩, ?_⟩
      · intro b hb
        rcases hb with hb | hb
        · exact Nat.lt_of_lt_of_le (h5 b hb) hC8.size
        · exact (ho8.lt hb).2
      · intro b hb
        rcases hb with hb | hb
        · exact .inl hb
        · rcases hob7 b hb with h | h
          · exact .inl (h4 b h)
          · exact .inr (by omega)
    have Hfin := Lib.hid hfin
    clear hfin hm7 hm6b hm6 hb7 hb6 ho7 ho6 k0 kx0 kx1 hob7 hC7 hbox6 hbox hC6
    go_wp2_with fail
    go_ret
    obtain ⟨F2, hF1, hF2⟩ := Hfin.out
    exact ⟨rfl, F2, hF1, hF2, hC8⟩
end Go.Proofs.Ytdcfnhggedeeiaa
