/-
  table.Table: what it holds; New, there, Len, Add, Next, Ready.
-/
import Derived.Test.YtfglikgifkpfpaaIds
import Derived.Test.YtfglikgifkpfpaaMaps
import Derived.Test.YtfglikgifkpfpaaIdentValid
namespace Go.Proofs.Ytfglikgifkpfpaa
open Go.RowKit
set_option linter.unusedVariables false
set_option linter.unusedSimpArgs false

noncomputable abbrev idKey : KeyKind Try.prog 27 ByteArray := strKey Try.underlying27

/-- A set of names as a map to true; names that wait for names. -/
def setF (G : ByteArray → Bool) (a : ByteArray) : Option Value := if G a then some (.bool true) else none
def onF (K : ByteArray → Option ByteArray) (a : ByteArray) : Option Value := (K a).map Value.string
theorem setF_put (G : ByteArray → Bool) (x a : ByteArray) : (if a = x then some (Value.bool true) else setF G a) = setF (fun b => decide (b = x) || G b) a := by
  unfold setF
  by_cases h : a = x <;> simp [h]
theorem setF_del (G : ByteArray → Bool) (x a : ByteArray) : (if a = x then none else setF G a) = setF (fun b => !decide (b = x) && G b) a := by
  unfold setF
  by_cases h : a = x <;> simp [h]
theorem setF_some (G : ByteArray → Bool) (a : ByteArray) : (setF G a).isSome = G a := by
  unfold setF
  cases G a <;> rfl

/-- How many there are when one is put in, or out. -/
def cntP (b : Bool) (n : Nat) : Nat := if b then n else n + 1
def cntD (b : Bool) (n : Nat) : Nat := if b then n - 1 else n
/-- What a table holds: the ready ones, those that go on (and how many), those that wait (and how many), how many there may be. -/
structure TbS where
  R : List ByteArray
  G : ByteArray → Bool
  ng : Nat
  K : ByteArray → Option ByteArray
  np : Nat
  mx : Int

/-- Block g is a table; F: the blocks that it uses. -/
structure Tb (w : World) (F : Nat → Prop) (g : Nat) (s : TbS) : Prop where
  mk_ ::
  is : ∃ A n c m1 m2, Hid (n = s.R.length) ∧ Blk w g 40 #[.slice A n c, .map (some m1), .map (some m2), .int .i64 s.mx] ∧ Win rkI w (.slice A n c) n (sv s.R) ∧ Mp idKey w m1 s.ng (setF s.G) ∧ Mp idKey w m2 s.np (onF s.K) ∧ m1 ≠ m2 ∧ F g ∧ F m1 ∧ F m2 ∧ (∀ b, (Value.slice A n c).ownBlock = some b → F b)
  lt : ∀ b, F b → b < w.heap.size

theorem Win.apartMap {P : Program} {K : RowKind P} {w : World} {v : Value} {n : Nat} {xs : List Value} (h : Win K w v n xs) {k : TypeId} {α : Type} {KK : KeyKind P k α} {g m : Nat} {f : α → Option Value} (hm : Mp KK w g m f) : v.ownBlock ≠ some g := by
  rcases h.2 with ⟨rfl, _⟩ | ⟨g2, o, c, cur, rfl, hh, _⟩
  · simp [Value.ownBlock]
  · intro he
    have : g2 = g := by simpa [Value.ownBlock] using he
    subst this
    exact hm.apart hh rfl

theorem Tb.chg {w w2 : World} {F S : Nat → Prop} {g : Nat} {s : TbS} (h : Tb w F g s) (hc : Chg S w w2) (hs : ∀ b, F b → ¬ S b) : Tb w2 F g s := by
  obtain ⟨⟨A, n, c, m1, m2, hn, hb, ho, hm, hm2, hne, h1, h2, h3, h4⟩, h5⟩ := h
  exact ⟨⟨A, n, c, m1, m2, hn, hb.chg hc (hs _ h1), ho.chg hc (fun b e => hs _ (h4 b e)), hm.chg hc (hs _ h2), hm2.chg hc (hs _ h3), hne, h1, h2, h3, h4⟩, fun b hb => Nat.lt_of_lt_of_le (h5 b hb) hc.size⟩
theorem Tb.non {w w2 : World} {F : Nat → Prop} {g : Nat} {s : TbS} (h : Tb w F g s) (hc : Chg Non w w2) : Tb w2 F g s := h.chg hc fun _ _ => id

theorem tbNew_any (mx : Int) (w : World) : Calls Try.prog 8 #[.int .i64 mx] w fun e w2 => ∃ g, e = .returned (.pointer (some ⟨g, 0, none⟩)) ∧ Tb w2 (fun b => w.heap.size ≤ b ∧ b < w2.heap.size) g ⟨[], fun _ => false, 0, fun _ => none, 0, if mx ≤ 1 then 1 else mx⟩ ∧ Chg Non w w2 := by
  have hmm := @run_makeMap Try.prog
  have key : ∀ y : Int, ∃ g, Ending.returned (.pointer (some ⟨w.heap.size + 2, 0, none⟩)) = .returned (.pointer (some ⟨g, 0, none⟩)) ∧ Tb (((w.alloc (.map #[] 0)).alloc (.map #[] 0)).alloc (.cells #[.slice none 0 0, .map (some w.heap.size), .map (some (w.heap.size + 1)), .int .i64 y] 40)) (fun b => w.heap.size ≤ b ∧ b < (((w.alloc (.map #[] 0)).alloc (.map #[] 0)).alloc (.cells #[.slice none 0 0, .map (some w.heap.size), .map (some (w.heap.size + 1)), .int .i64 y] 40)).heap.size) g ⟨[], fun _ => false, 0, fun _ => none, 0, y⟩ ∧ Chg Non w (((w.alloc (.map #[] 0)).alloc (.map #[] 0)).alloc (.cells #[.slice none 0 0, .map (some w.heap.size), .map (some (w.heap.size + 1)), .int .i64 y] 40)) := by
    intro y
    have hC := (((Chg.refl Non w).alloc (.map #[] 0)).alloc (.map #[] 0)).alloc (.cells #[.slice none 0 0, .map (some w.heap.size), .map (some (w.heap.size + 1)), .int .i64 y] 40)
    have hm1 := Mp.made idKey w
    have hm2 := Mp.made idKey (w.alloc (.map #[] 0))
    rw [World.size_alloc] at hm2
    refine ⟨w.heap.size + 2, rfl, ⟨⟨none, 0, 0, w.heap.size, w.heap.size + 1, rfl, ?_, Win.nil _ _, ((hm1.alloc _).alloc _).congr (fun a => rfl), (hm2.alloc _).congr (fun a => rfl), by omega, ?_, ?_, ?_, ?_⟩, fun b hb => hb.2⟩, hC⟩
    · have := Blk.new ((w.alloc (.map #[] 0)).alloc (.map #[] 0)) 40 #[.slice none 0 0, .map (some w.heap.size), .map (some (w.heap.size + 1)), .int .i64 y]
      simpa using this
    · exact ⟨by omega, by simp⟩
    · exact ⟨by omega, by simp; omega⟩
    · exact ⟨by omega, by simp⟩
    · intro b hb; simp [Value.ownBlock] at hb
  have Key := Lib.hid key
  clear key
  by_cases h1 : mx ≤ 1
  · go_enter Try.func8, Try.ntmps8
    go_wp2_with fail
    go_ret
    exact Key.out 1
  · go_enter Try.func8, Try.ntmps8
    go_wp2_with fail
    go_ret
    exact Key.out mx

/-- Is a name among a table's tasks? -/
def TbS.has (s : TbS) (a : ByteArray) : Bool := (s.K a).isSome || s.G a || hasB s.R a

set_option maxRecDepth 100000 in
theorem there_any (w : World) (F : Nat → Prop) (g : Nat) (s : TbS) (id : ByteArray) (h : Tb w F g s) (hid : id.size ≤ maxLen) :
    Calls Try.prog 34 #[.pointer (some ⟨g, 0, none⟩), .string id] w fun e w2 => e = .returned (.bool (s.has id)) ∧ w = w2 := by
  obtain ⟨⟨A, n, c, m1, m2, hn, hb, ho, hm, hm2, hne, h1, h2, h3, h4⟩, h5⟩ := h
  have c0 := hb.cell 0
  have c1 := hb.cell 1
  have c2 := hb.cell 2
  simp only [List.getElem?_toArray, List.getElem?_cons_zero, List.getElem?_cons_succ] at c0 c1 c2
  have hr := ho.rds
  have hnl : n ≤ 9223372036854775807 := ho.small
  have hhas : s.has id = ((s.K id).isSome || s.G id || hasB s.R id) := rfl
  cases hk : s.K id with
  | some v =>
    have q2 := hm2.look_okS Try.underlying36 (z := .string ⟨#[]⟩) (by kernel_rfl) hid (u := some (.string v)) (by unfold onF; rw [hk]; rfl)
    simp only [Option.getD_some, Option.isSome_some] at q2
    rw [hk] at hhas
    simp only [Option.isSome_some, Bool.true_or] at hhas
    have Hhas := Lib.hid hhas
    clear hhas hk hb ho hm hm2 hr
    go_enter Try.func34, Try.ntmps34
    go_wp2_with fail
    go_ret
    exact ⟨by rw [Hhas.out]; rfl, rfl⟩
  | none =>
    have q2 := hm2.look_okS Try.underlying36 (z := .string ⟨#[]⟩) (by kernel_rfl) hid (u := none) (by unfold onF; rw [hk]; rfl)
    simp only [Option.getD_none, Option.isSome_none] at q2
    rw [hk] at hhas
    cases hg : s.G id with
    | true =>
      have q1 := hm.lookS Try.underlying35 (z := .bool false) (by kernel_rfl) hid (u := some (.bool true)) (by unfold setF; rw [hg]; rfl)
      simp only [Option.getD_some] at q1
      rw [hg] at hhas
      simp only [Option.isSome_none, Bool.false_or, Bool.true_or] at hhas
      have Hhas := Lib.hid hhas
      clear hhas hk hg hb ho hm hm2 hr
      go_enter Try.func34, Try.ntmps34
      go_wp2_with fail
      go_ret
      exact ⟨by rw [Hhas.out]; rfl, rfl⟩
    | false =>
      have q1 := hm.lookS Try.underlying35 (z := .bool false) (by kernel_rfl) hid (u := none) (by unfold setF; rw [hg]; rfl)
      simp only [Option.getD_none] at q1
      rw [hg] at hhas
      simp only [Option.isSome_none, Bool.false_or] at hhas
      have Hhas := Lib.hid hhas
      clear hhas hk hg hb ho hm hm2
      go_enter Try.func34, Try.ntmps34
      go_wp2_with fail
      refine (containsI_any _ A n c s.R id hr hnl).mono ?_
      rintro e w2 ⟨rfl, rfl⟩
      rw [← Hhas.out]
      go_wp2_with fail
      go_ret
      exact ⟨rfl, rfl⟩

theorem tbReady_any (w : World) (F : Nat → Prop) (g : Nat) (s : TbS) (h : Tb w F g s) (hs : s.R.length ≤ 1099511627776) :
    Calls Try.prog 13 #[.pointer (some ⟨g, 0, none⟩)] w fun e w2 => ∃ v, e = .returned v ∧ OwnR rkI w2 w.heap.size v s.R.length (sv s.R) ∧ Chg Non w w2 := by
  obtain ⟨⟨A, n, c, m1, m2, hn, hb, ho, _⟩, _⟩ := h
  obtain rfl := hn.out
  have c0 := hb.cell 0
  simp only [List.getElem?_toArray, List.getElem?_cons_zero] at c0
  have hr := ho.rds
  clear hb ho
  go_enter Try.func13, Try.ntmps13
  go_wp2_with fail
  refine (cloneI_any A _ c _ _ hr (sv_one _) hs).mono ?_
  rintro e w2 ⟨v, rfl, h2, hc⟩
  obtain ⟨A2, c2, rfl, _⟩ := h2.open_
  go_wp2_with fail
  go_ret
  exact ⟨_, rfl, h2, hc⟩

set_option maxRecDepth 100000 in
theorem tbLen_any (w : World) (F : Nat → Prop) (g : Nat) (s : TbS) (h : Tb w F g s) (hs : s.R.length + s.ng + s.np ≤ 9223372036854775807) :
    Calls Try.prog 17 #[.pointer (some ⟨g, 0, none⟩)] w fun e w2 => e = .returned (.int .i64 ((s.R.length + s.ng + s.np : Nat) : Int)) ∧ ∃ k, w2 = w.drewN k := by
  obtain ⟨⟨A, n, c, m1, m2, hn, hb, ho, hm, hm2, _⟩, _⟩ := h
  obtain rfl := hn.out
  have c0 := hb.cell 0
  have c1 := hb.cell 1
  have c2 := hb.cell 2
  simp only [List.getElem?_toArray, List.getElem?_cons_zero, List.getElem?_cons_succ] at c0 c1 c2
  have q1 : ∀ j ty, (Builtin.len_ #[35] ty #[.map (some m1)]).run Try.prog (w.drewN j) = .ok (.int .i64 s.ng) (w.drewN j) := fun j ty => (hm.drewN j).len Try.underlying35 ty
  have q2 : ∀ j ty, (Builtin.len_ #[36] ty #[.map (some m2)]).run Try.prog (w.drewN j) = .ok (.int .i64 s.np) (w.drewN j) := fun j ty => (hm2.drewN j).len Try.underlying36 ty
  have e1 : IntKind.i64.wrap ((s.R.length : Int) + (s.ng : Int)) = (s.R.length : Int) + (s.ng : Int) := IntWalk.i64_in _ (by omega)
  have e2 : IntKind.i64.wrap ((s.R.length : Int) + (s.ng : Int) + (s.np : Int)) = (s.R.length : Int) + (s.ng : Int) + (s.np : Int) := IntWalk.i64_in _ (by omega)
  clear hb ho hm hm2
  go_enter Try.func17, Try.ntmps17
  go_wp2_with fail
  go_quiet (fail)
  go_wp2_with fail
  go_ret
  refine ⟨?_, nq, rfl⟩
  show Ending.returned (.int .i64 _) = _
  congr 2

theorem sv_snoc (L : List ByteArray) (x : ByteArray) : sv (L ++ [x]) = sv L ++ [.string x] := by simp [sv]

set_option maxRecDepth 100000 in
set_option maxHeartbeats 400000 in
/-- Add of a new name where there is room. -/
theorem tbAdd_yes (w : World) (F : Nat → Prop) (g : Nat) (s : TbS) (id : ByteArray) (h : Tb w F g s) (hv : vid id = true) (hno : s.has id = false) (hroom : (s.R.length + s.ng + s.np : Nat) < s.mx) (hs : s.R.length + s.ng + s.np ≤ 1000000000) :
    Calls Try.prog 9 #[.pointer (some ⟨g, 0, none⟩), .string id] w fun e w2 => e = .returned (.int .i64 0) ∧ ∃ F2, Tb w2 F2 g { s with R := s.R ++ [id] } ∧ (∀ b, F2 b → F b ∨ w.heap.size ≤ b) ∧ Chg F w w2 := by
  have hid : id.size ≤ maxLen := by have := vid_small hv; unfold maxLen; omega
  have Hv := Lib.hid hv
  have Hno := Lib.hid hno
  have H := Lib.hid h
  obtain ⟨⟨A, n, c, m1, m2, hn, hb, ho, hm, hm2, hne, h1, h2, h3, h4⟩, h5⟩ := h
  have c0 := hb.cell 0
  have c3 := hb.cell 3
  have f0 := hb.frozen 0
  simp only [List.getElem?_toArray, List.getElem?_cons_zero, List.getElem?_cons_succ] at c0 c3
  have hn2 : n ≤ 1000000000 := by have := hn.out; omega
  have d1 : decide (s.mx ≤ ((s.R.length + s.ng + s.np : Nat) : Int)) = false := by simp; omega
  generalize hN : s.R.length + s.ng + s.np = N at d1 hroom hs
  have HN := Lib.hid hN
  clear hv hno hN
  go_enter Try.func9, Try.ntmps9
  go_wp2_with fail
  refine (valid_any id _).mono ?_
  rintro e w9 ⟨rfl, rfl⟩
  rw [Hv.out]
  go_wp2_with fail
  refine (there_any _ F g s id H.out hid).mono ?_
  rintro e w9 ⟨rfl, rfl⟩
  rw [Hno.out]
  go_wp2_with fail
  go_quiet ((go_at_call 17; exact (Calls.quiet_of ((tbLen_any _ F g s (H.out.non ((Chg.refl _ _).drewN _)) (by have := HN.out; omega)).mono (fun e w2 h => by rw [HN.out] at h; exact h)))))
  go_wp2_with (at_builtin; refine appW1 (K := rkI) rfl (.tmp 31) (.tmp 33) rfl (ho.drewN nq) rfl (cs := #[.string id]) rfl rfl (sv_one [id]) ?_ ?_; (next => omega); intro v6 w6 h6 hc6 hb6; obtain ⟨A6, c6, rfl, _⟩ := h6.open_; have hk6 := (hb.drewN nq).chg hc6 (fun e => ho.apart hb (by decide) e); have c06 := hk6.cell 0; have f06 := hk6.frozen 0; simp only [List.getElem?_toArray, List.getElem?_cons_zero] at c06)
  go_ret
  refine ⟨rfl, fun b => F b ∨ (Value.slice A6 (n + 1) c6).ownBlock = some b, ⟨⟨A6, n + 1, c6, m1, m2, ?_, ?_, ?_, ?_, ?_, hne, .inl h1, .inl h2, .inl h3, fun b hb => .inr hb⟩, ?_⟩, ?_, ?_⟩
  · show n + 1 = (s.R ++ [id]).length
    have := hn.out
    simp
    omega
  · have := hk6.put 0 (.slice A6 (n + 1) c6)
    simpa using this
  · show Win rkI _ _ _ (sv (s.R ++ [id]))
    rw [sv_snoc]
    exact h6.chg ((Chg.refl _ _).set1 0 _) (fun b hb e => h6.apart hk6 (by decide) (by rw [hb, show b = g from e]))
  · exact ((hm.drewN nq).chg hc6 (fun e => ho.apartMap hm e)).chg ((Chg.refl _ _).set1 0 _) (fun e => hm.apart hb e)
  · exact ((hm2.drewN nq).chg hc6 (fun e => ho.apartMap hm2 e)).chg ((Chg.refl _ _).set1 0 _) (fun e => hm2.apart hb e)
  · intro b hb
    have hs6 := hc6.size
    simp only [World.setCell, Array.size_modify]
    rcases hb with hb | hb
    · exact Nat.lt_of_lt_of_le (h5 b hb) hs6
    · exact h6.lt hb
  · intro b hb
    rcases hb with hb | hb
    · exact .inl hb
    · exact (hb6 b hb).imp (h4 b) (fun e => e)
  · exact ((((Chg.refl F w).drewN nq).trans2 hc6 (fun b e => .inl (h4 b e))).setCell (p := ⟨g, 0, none⟩) (.inl h1) _)

theorem sv_take (L : List ByteArray) (k : Nat) : sv (L.take k) = (sv L).take k := by simp [sv]
theorem sv_drop (L : List ByteArray) (k : Nat) : sv (L.drop k) = (sv L).drop k := by simp [sv]

set_option maxRecDepth 100000 in
theorem tbNext_no (w : World) (F : Nat → Prop) (g : Nat) (s : TbS) (h : Tb w F g s) (hR : s.R = []) :
    Calls Try.prog 10 #[.pointer (some ⟨g, 0, none⟩)] w fun e w2 => e = .returned (.tuple #[.string ⟨#[]⟩, .bool false]) ∧ w = w2 := by
  obtain ⟨⟨A, n, c, m1, m2, hn, hb, _⟩, _⟩ := h
  obtain rfl : n = 0 := by have := hn.out; rw [hR] at this; exact this
  have c0 := hb.cell 0
  simp only [List.getElem?_toArray, List.getElem?_cons_zero] at c0
  clear hb hR
  go_enter Try.func10, Try.ntmps10
  go_wp2_with fail
  go_ret2
  exact ⟨rfl, rfl⟩

set_option maxRecDepth 100000 in
set_option maxHeartbeats 400000 in
theorem tbNext_yes (w : World) (F : Nat → Prop) (g : Nat) (s : TbS) (R : List ByteArray) (x : ByteArray) (h : Tb w F g s) (hR : s.R = R ++ [x]) (hx : x.size ≤ maxLen) (hng : s.ng ≤ 1000000000) :
    Calls Try.prog 10 #[.pointer (some ⟨g, 0, none⟩)] w fun e w2 => e = .returned (.tuple #[.string x, .bool true]) ∧ Tb w2 F g { s with R := R, G := fun b => decide (b = x) || s.G b, ng := cntP (s.G x) s.ng } ∧ Chg F w w2 := by
  obtain ⟨⟨A, n, c, m1, m2, hn, hb, ho, hm, hm2, hne, h1, h2, h3, h4⟩, h5⟩ := h
  obtain rfl : n = R.length + 1 := by have := hn.out; rw [hR] at this; simpa using this
  have c0 := hb.cell 0
  have c1 := hb.cell 1
  have f0 := hb.frozen 0
  simp only [List.getElem?_toArray, List.getElem?_cons_zero, List.getElem?_cons_succ] at c0 c1
  have hsm := ho.small
  have hgm : g ≠ m1 := fun e => hm.apart hb e.symm
  have hgm2 : g ≠ m2 := fun e => hm2.apart hb e.symm
  have hw2 := ho.hi (k := R.length) (by omega)
  simp only [Nat.mul_one, show rkI.size = 1 from rfl] at hw2
  rw [← sv_take, hR, List.take_left'] at hw2
  rotate_left
  · rfl
  obtain ⟨A0, n0, e0, hnc, _, hr⟩ := ho.open_
  injection e0 with e1 e2 e3
  subst e1 e3
  obtain ⟨ad, y, rfl, hy, hcy⟩ := Rds.getS hr (k := R.length) (by omega)
  rw [hR, List.getElem?_append_right (Nat.le_refl _)] at hy
  simp at hy
  subst hy
  have hxc : w.cell? (ad.add R.length) = some (.string x) := hcy
  have q5 : ∀ w : World, (Instr.slice 26 (.slice (some ad) (R.length + 1) c) none (some (.int .i64 (R.length : Int))) none).run Try.prog w = .ok (.slice (some ad) R.length c) w :=
    fun w => run_slice_hi Try.underlying26 (by kernel_rfl) rfl (by omega) _ _ w
  have b1 : (0 : Int) ≤ (R.length : Int) := by omega
  have hk1 := hb.put 0 (.slice (some ad) R.length c)
  simp only [List.setIfInBounds_toArray, List.set_cons_zero] at hk1
  have hC1 := (Chg.refl F w).setCell (p := ⟨g, 0, none⟩) (.inl h1) (.slice (some ad) R.length c)
  have hS1 : Chg (fun b => b = g) w (w.setCell ⟨g, 0, none⟩ (.slice (some ad) R.length c)) := (Chg.refl _ _).set1 0 _
  have hm1' := hm.chg hS1 (fun e => hgm e.symm)
  have hm2' := hm2.chg hS1 (fun e => hgm2 e.symm)
  have hw2' := hw2.chg hS1 (fun b hb2 e => hw2.apart hb (by decide) (by rw [hb2, show b = g from e]))
  have Hn := Lib.hid hR
  clear hR hcy hr hn
  go_enter Try.func10, Try.ntmps10
  go_wp2_with (at_mapUpdate; refine wp_store_Mp (K := idKey) rfl (.tmp 38) (.tmp 39) (.const (.bool true)) 35 rfl hm1' Try.underlying35 (by unfold maxLen; omega) rfl (b := x) hx rfl (u := .bool true) rfl ?_; intro w6 hm6 hc6)
  go_ret2
  rw [setF_some] at hm6
  have hm6 : Mp idKey w6 m1 (cntP (s.G x) s.ng) _ := hm6
  refine ⟨rfl, ⟨⟨some ad, R.length, c, m1, m2, rfl, hk1.chg hc6 (fun e => hgm e), hw2'.chg hc6 (fun b hb2 e => hw2'.apartMap hm1' (by rw [hb2, show b = m1 from e])), hm6.congr (setF_put s.G x), hm2'.chg hc6 (fun e => hne e.symm), hne, h1, h2, h3, h4⟩, fun b hb => ?_⟩, hC1.trans2 hc6 (fun b e => .inl (by rw [show b = m1 from e]; exact h2))⟩
  have := hC1.size
  have := hc6.size
  have := h5 b hb
  omega

set_option maxRecDepth 100000 in
set_option maxHeartbeats 400000 in
/-- slices.Delete(l, 0, 1). -/
theorem delFirst_any (w : World) (ad : Addr) (c : Nat) (x : ByteArray) (R : List ByteArray) (h : Win rkI w (.slice (some ad) (R.length + 1) c) (R.length + 1) (sv (x :: R))) :
    Calls Try.prog 35 #[.slice (some ad) (R.length + 1) c, .int .i64 0, .int .i64 1] w fun e w2 => e = .returned (.slice (some ad) R.length c) ∧ Win rkI w2 (.slice (some ad) R.length c) R.length (sv R) ∧ Chg (fun g => g = ad.block) w w2 := by
  have hsm := h.small
  have hncc : R.length + 1 ≤ c := by
    obtain ⟨A0, n0, e0, hnc, _, _⟩ := h.open_
    injection e0 with e1 e2 e3
    omega
  have had : ad = ⟨ad.block, ad.off, none⟩ := by
    rcases h.2 with ⟨e, _⟩ | ⟨g, o, c2, cur, e, _⟩
    · cases e
    · injection e with e1
      injection e1 with e1
      rw [e1]
  have hw0 := h.hi (k := 0) (Nat.zero_le _)
  have hrd := (h.lo (k := 1) (by omega)).rds
  simp only [Nat.zero_mul, List.take_zero, Nat.one_mul, show rkI.size = 1 from rfl, Nat.add_sub_cancel] at hw0 hrd
  have hrd2 : Rds w 1 (cutA (some ad) c 1 1) R.length (sv R) := hrd
  have q1 : ∀ w : World, (Instr.slice 26 (.slice (some ad) (R.length + 1) c) none (some (.int .i64 0)) none).run Try.prog w = .ok (.slice (some ad) 0 c) w :=
    fun w => run_slice_hi Try.underlying26 (by kernel_rfl) (i := 0) (k := 0) rfl (by omega) _ _ w
  have q2 : ∀ w : World, (Instr.slice 26 (.slice (some ad) (R.length + 1) c) (some (.int .i64 1)) none none).run Try.prog w = .ok (.slice (cutA (some ad) c 1 1) R.length (c - 1)) w := by
    intro w
    exact run_slice_lo Try.underlying26 1 (by kernel_rfl) (by kernel_rfl) (i := 1) (k := 1) rfl (by omega) _ _ w
  have q3 : ∀ w : World, (Instr.slice 26 (.slice (some ad) R.length c) (some (.int .i64 (R.length : Int))) (some (.int .i64 ((R.length : Int) + 1))) none).run Try.prog w = .ok (.slice (some ⟨ad.block, ad.off + R.length, none⟩) 1 (c - R.length)) w := by
    intro w
    have := run_slice_mid (P := Try.prog) (kl := .i64) (kh := .i64) Try.underlying26 1 (by kernel_rfl) (by kernel_rfl) (i := (R.length : Int)) (j := (R.length : Int) + 1) (k := R.length) (m := R.length + 1) rfl rfl (by omega) (c := c) (by omega) (some ad) R.length w
    rw [this]
    unfold cutA
    rw [if_neg (by omega), Option.map_some, Nat.mul_one, had, add_off, Nat.add_sub_cancel_left]
  have b1 : (0 : Int) ≤ (R.length : Int) := by omega
  generalize hcut : cutA (some ad) c 1 1 = B at hrd2 q2
  clear hcut hrd had
  go_enter Try.func35, Try.ntmps35
  go_wp2_with fail
  refine st_region_tail 6 6 Non [] [] (fun _ _ _ _ => True) (fun _ _ _ _ => True) (fun _ _ _ => True) (fun _ => True) (by kernel_rfl) (by kernel_rfl) (by kernel_rfl) (fun _ h => h.elim) trivial (fun _ _ _ => trivial) ?_
  repeat (first | (refine st_pass (by rfl) ?_; simp only [Act.put, List.setIfInBounds_toArray, List.set_cons_succ, List.set_cons_zero]) | (refine st_plain (Non) (w) rfl rfl (f := ?_) (by rfl) rfl rfl (fun w hC hG => ?_) ?_; rotate_left; (clear hG; first | (go_simp; done) | (go_simp; with_reducible rfl) | (simp [*, go_sem, ↓IntWalk.iteOmega]; done) | (simp [*, go_sem, ↓IntWalk.iteOmega]; with_reducible rfl)); simp only [Act.put, List.setIfInBounds_toArray, List.set_cons_succ, List.set_cons_zero]))
  refine st_tail Non w rfl rfl rfl (fun w5 hC5 _ _ => ?_)
  simp only [List.drop_succ_cons, List.drop_zero]
  refine appW_room (K := rkI) rfl (.tmp 22) (.tmp 25) rfl (hw0.non hC5) rfl (hrd2.non hC5) rfl (sv_one _) (by omega) ?_
  intro w6 h6 hc6
  simp only [Act.put, List.setIfInBounds_toArray, List.set_cons_succ, List.set_cons_zero]
  simp only [Nat.zero_add, List.nil_append] at h6 ⊢
  have hsome : (w6.cell? ⟨ad.block, ad.off + R.length + 0, none⟩).isSome = true ∧ w6.frozen? ⟨ad.block, ad.off + R.length + 0, none⟩ = false := by
    rcases h6.2 with ⟨e, _⟩ | ⟨g, o, c2, cur, e, hblk, _, _, hfit, _⟩
    · cases e
    · injection e with e1 e2 e3
      injection e1 with e1
      subst e1 e3
      refine ⟨?_, hblk.frozen _⟩
      rw [hblk.cell, Array.getElem?_eq_getElem (by simp only [show rkI.size = 1 from rfl] at hfit; simp only; omega)]
      rfl
  have q4 : ∀ ty, (Builtin.clear_ #[26] ty #[.slice (some ⟨ad.block, ad.off + R.length, none⟩) 1 (c - R.length)]).run Try.prog w6 = .ok (.tuple #[]) (w6.setCells ad.block (ad.off + R.length) [.string ⟨#[]⟩]) :=
    fun ty => Lib.run_clear_slice w6 26 27 ty (.string ⟨#[]⟩) Try.underlying26 (by intro w; kernel_rfl) rfl rfl ad.block (ad.off + R.length) 1 _ (by omega) (fun j hj => by have e : j = 0 := (by omega); subst e; exact hsome.1) (fun j hj => by have e : j = 0 := (by omega); subst e; exact hsome.2)
  have hend : Win rkI (w6.setCells ad.block (ad.off + R.length) [.string ⟨#[]⟩]) (.slice (some ad) R.length c) R.length (sv R) ∧ Chg (fun g => g = ad.block) w (w6.setCells ad.block (ad.off + R.length) [.string ⟨#[]⟩]) :=
    ⟨h6.beyond rfl (by simp [show rkI.size = 1 from rfl]) _, Chg.sets (S := fun g => g = ad.block) (.inl rfl) _ _ _ ((hC5.of_non).trans2 hc6 (fun b e => .inl (by have e : some ad.block = some b := e; exact (Option.some.inj e).symm)))⟩
  have Hend := Lib.hid hend
  clear hend h6 hc6 hsome hw0 hrd2 h
  go_wp2_with fail
  go_ret
  exact ⟨rfl, Hend.out.1, Hend.out.2⟩

set_option maxRecDepth 100000 in
theorem tbSteal_no (w : World) (F : Nat → Prop) (g : Nat) (s : TbS) (h : Tb w F g s) (hR : s.R = []) :
    Calls Try.prog 11 #[.pointer (some ⟨g, 0, none⟩)] w fun e w2 => e = .returned (.tuple #[.string ⟨#[]⟩, .bool false]) ∧ w = w2 := by
  obtain ⟨⟨A, n, c, m1, m2, hn, hb, _⟩, _⟩ := h
  obtain rfl : n = 0 := by have := hn.out; rw [hR] at this; exact this
  have c0 := hb.cell 0
  simp only [List.getElem?_toArray, List.getElem?_cons_zero] at c0
  clear hb hR
  go_enter Try.func11, Try.ntmps11
  go_wp2_with fail
  go_ret2
  exact ⟨rfl, rfl⟩

set_option maxRecDepth 100000 in
set_option maxHeartbeats 400000 in
theorem tbSteal_yes (w : World) (F : Nat → Prop) (g : Nat) (s : TbS) (R : List ByteArray) (x : ByteArray) (h : Tb w F g s) (hR : s.R = x :: R) :
    Calls Try.prog 11 #[.pointer (some ⟨g, 0, none⟩)] w fun e w2 => e = .returned (.tuple #[.string x, .bool true]) ∧ Tb w2 F g { s with R := R } ∧ Chg F w w2 := by
  obtain ⟨⟨A, n, c, m1, m2, hn, hb, ho, hm, hm2, hne, h1, h2, h3, h4⟩, h5⟩ := h
  obtain rfl : n = R.length + 1 := by have := hn.out; rw [hR] at this; simpa using this
  have c0 := hb.cell 0
  simp only [List.getElem?_toArray, List.getElem?_cons_zero] at c0
  have hgm : g ≠ m1 := fun e => hm.apart hb e.symm
  have hgm2 : g ≠ m2 := fun e => hm2.apart hb e.symm
  have hsm := ho.small
  rw [hR] at ho
  obtain ⟨A0, n0, e0, hnc, _, hr⟩ := ho.open_
  injection e0 with e1 e2 e3
  subst e1 e3
  obtain ⟨ad, y, rfl, hy, hcy⟩ := Rds.getS hr (k := 0) (by omega)
  obtain rfl : y = x := by simpa using hy.symm
  have hxc : w.cell? ad = some (.string y) := by simpa [Addr.add] using hcy
  have hF : F ad.block := h4 _ rfl
  have hag : ad.block ≠ g := fun e => ho.apart hb (by decide) (by rw [← e]; rfl)
  have ham : ad.block ≠ m1 := fun e => ho.apartMap hm (by rw [← e]; rfl)
  have ham2 : ad.block ≠ m2 := fun e => ho.apartMap hm2 (by rw [← e]; rfl)
  have hno : ((R.length : Int) + 1 == 0) = false := beq_eq_false_iff_ne.2 (by omega)
  have Hn := Lib.hid hR
  clear hR hcy hr hn hy
  go_enter Try.func11, Try.ntmps11
  go_wp2_with fail
  refine (delFirst_any w ad c y R ho).mono ?_
  rintro e w2 ⟨rfl, ho2, hc2⟩
  have hb2 := hb.chg hc2 (fun e => hag e.symm)
  have c02 := hb2.cell 0
  have f02 := hb2.frozen 0
  simp only [List.getElem?_toArray, List.getElem?_cons_zero] at c02
  have hm1' := hm.chg hc2 (fun e => ham e.symm)
  have hm2' := hm2.chg hc2 (fun e => ham2 e.symm)
  have hC2 : Chg F w w2 := hc2.mono (fun b e => by rw [show b = ad.block from e]; exact hF)
  clear hc2 hb c0
  go_wp2_with fail
  go_ret2
  have hS1 : Chg (fun b => b = g) w2 (w2.setCell ⟨g, 0, none⟩ (.slice (some ad) R.length c)) := (Chg.refl _ _).set1 0 _
  have hk1 := hb2.put 0 (.slice (some ad) R.length c)
  simp only [List.setIfInBounds_toArray, List.set_cons_zero] at hk1
  refine ⟨rfl, ⟨⟨some ad, R.length, c, m1, m2, rfl, hk1, ho2.chg hS1 (fun b hb e => hag (by have hb : some ad.block = some b := hb; rw [Option.some.inj hb]; exact e)), hm1'.chg hS1 (fun e => hgm e.symm), hm2'.chg hS1 (fun e => hgm2 e.symm), hne, h1, h2, h3, fun b hb => h4 b hb⟩, fun b hb => ?_⟩, hC2.setCell (.inl h1) _⟩
  have := hC2.size
  have := hS1.size
  have := h5 b hb
  omega

set_option maxRecDepth 100000 in
set_option maxHeartbeats 400000 in
theorem tb_alive (w : World) : Calls Try.prog 7 #[] w fun e w2 => e = .returned (.bool true) ∧ Chg Non w w2 := by
  go_enter Try.func7, Try.ntmps7
  go_wp2_with fail
  refine (tbNew_any 5 _).mono ?_
  rintro e w1 ⟨g, rfl, hT, hc1⟩
  go_wp2_with fail
  refine (tbAdd_yes _ _ g _ ⟨#[1]⟩ hT (by decide) rfl (by decide) (by decide)).mono ?_
  rintro e w2 ⟨rfl, F2, hT2, hF2, hc2⟩
  have hC2 : Chg Non w w2 := hc1.trans2 hc2 (fun b e => .inr e.1)
  have hG2 : ∀ b, F2 b → w.heap.size ≤ b := fun b hb => (hF2 b hb).elim (fun h => h.1) (fun h => Nat.le_trans hc1.size h)
  clear hc1 hc2 hT hF2
  go_wp2_with fail
  refine (tbAdd_yes _ _ g _ ⟨#[2]⟩ hT2 (by decide) rfl (by decide) (by decide)).mono ?_
  rintro e w3 ⟨rfl, F3, hT3, hF3, hc3⟩
  have hC3 : Chg Non w w3 := hC2.trans2 hc3 (fun b e => .inr (hG2 b e))
  have hG3 : ∀ b, F3 b → w.heap.size ≤ b := fun b hb => (hF3 b hb).elim (hG2 b) (fun h => Nat.le_trans hC2.size h)
  clear hC2 hc3 hT2 hF3 hG2
  go_wp2_with fail
  refine (tbNext_yes _ _ g _ [⟨#[1]⟩] ⟨#[2]⟩ hT3 rfl (by decide) (by decide)).mono ?_
  rintro e w4 ⟨rfl, hT4, hc4⟩
  have hC4 : Chg Non w w4 := hC3.trans2 hc4 (fun b e => .inr (hG3 b e))
  clear hC3 hc4 hT3
  go_wp2_with fail
  refine (tbSteal_yes _ _ g _ [] ⟨#[1]⟩ hT4 rfl).mono ?_
  rintro e w5 ⟨rfl, hT5, hc5⟩
  have hC5 : Chg Non w w5 := hC4.trans2 hc5 (fun b e => .inr (hG3 b e))
  clear hC4 hc5 hT4
  go_wp2_with fail
  refine (tbLen_any _ _ g _ hT5 (by decide)).mono ?_
  rintro e w6 ⟨rfl, j, rfl⟩
  go_wp2_with fail
  go_ret
  exact ⟨rfl, hC5.drewN _⟩
end Go.Proofs.Ytfglikgifkpfpaa
