/-
  table.Table: Add that fails, Parked, Going, End, Back, Park.
-/
import Derived.Test.YtfglikgifkpfpaaTable
import Derived.Test.YtfglikgifkpfpaaTabKeysP
import Derived.Test.YtfglikgifkpfpaaTabKeysG
namespace Go.Proofs.Ytfglikgifkpfpaa
open Go.RowKit
set_option linter.unusedVariables false
set_option linter.unusedSimpArgs false

theorem cells4 {w : World} {g : Nat} {t : TypeId} {a b c d : Value} (h : Blk w g t #[a, b, c, d]) : w.cell? ⟨g, 0, none⟩ = some a ∧ w.cell? ⟨g, 1, none⟩ = some b ∧ w.cell? ⟨g, 2, none⟩ = some c ∧ w.cell? ⟨g, 3, none⟩ = some d := ⟨h.cell 0, h.cell 1, h.cell 2, h.cell 3⟩

set_option maxRecDepth 100000 in
theorem tbAdd_no (w : World) (F : Nat → Prop) (g : Nat) (s : TbS) (id : ByteArray) (h : Tb w F g s) (hid : id.size ≤ maxLen) (hno : vid id = false ∨ s.has id = true) :
    Calls Try.prog 9 #[.pointer (some ⟨g, 0, none⟩), .string id] w fun e w2 => e = .returned (.int .i64 1) ∧ w = w2 := by
  have hth := there_any w F g s id h hid
  obtain ⟨⟨A, n, c, m1, m2, hn, hb, _⟩, _⟩ := h
  have hg := hb.lt
  cases hv : vid id with
  | false =>
    have Hv := Lib.hid hv
    clear hv hno hb
    go_enter Try.func9, Try.ntmps9
    go_wp2_with fail
    refine (valid_any id _).mono ?_
    rintro e w9 ⟨rfl, rfl⟩
    rw [Hv.out]
    go_wp2_with fail
    go_ret
    exact ⟨rfl, rfl⟩
  | true =>
    have hh : s.has id = true := hno.elim (fun h => by rw [hv] at h; cases h) (fun h => h)
    rw [hh] at hth
    have Hv := Lib.hid hv
    clear hv hno hb hh
    go_enter Try.func9, Try.ntmps9
    go_wp2_with fail
    refine (valid_any id _).mono ?_
    rintro e w9 ⟨rfl, rfl⟩
    rw [Hv.out]
    go_wp2_with fail
    refine hth.mono ?_
    rintro e w9 ⟨rfl, rfl⟩
    go_wp2_with fail
    go_ret
    exact ⟨rfl, rfl⟩

set_option maxRecDepth 100000 in
set_option maxHeartbeats 400000 in
theorem tbAdd_full (w : World) (F : Nat → Prop) (g : Nat) (s : TbS) (id : ByteArray) (h : Tb w F g s) (hv : vid id = true) (hno : s.has id = false) (hfull : s.mx ≤ (s.R.length + s.ng + s.np : Nat)) (hs : s.R.length + s.ng + s.np ≤ 1000000000) :
    Calls Try.prog 9 #[.pointer (some ⟨g, 0, none⟩), .string id] w fun e w2 => e = .returned (.int .i64 31) ∧ Chg Non w w2 := by
  have hid : id.size ≤ maxLen := by have := vid_small hv; unfold maxLen; omega
  have Hv := Lib.hid hv
  have Hno := Lib.hid hno
  have H := Lib.hid h
  obtain ⟨⟨A, n, c, m1, m2, hn, hb, _⟩, h5⟩ := h
  obtain ⟨c0, _, _, c3⟩ := cells4 hb
  have hg := hb.lt
  have d1 : decide (s.mx ≤ ((s.R.length + s.ng + s.np : Nat) : Int)) = true := decide_eq_true hfull
  generalize hN : s.R.length + s.ng + s.np = N at d1 hfull hs
  have HN := Lib.hid hN
  clear hv hno hN hb
  go_enter Try.func9, Try.ntmps9
  go_wp2_with fail
  refine (valid_any id _).mono ?_
  rintro e w9 ⟨rfl, rfl⟩
  rw [Hv.out]
  go_wp2_with fail
  refine (there_any _ F g s id H.out hid).mono ?_
  rintro e w9 ⟨rfl, rfl⟩
  rw [Hno.out]
  go_wp2_with fail
  go_quiet ((go_at_call 17; exact (Calls.quiet_of ((tbLen_any _ F g s (H.out.non ((Chg.refl _ _).drewN _)) (by have := HN.out; omega)).mono (fun e w2 h => by rw [HN.out] at h; exact h)))))
  go_wp2_with fail
  go_ret
  exact ⟨rfl, (Chg.refl _ _).drewN _⟩

def NamesPost (w : World) (cnt : Nat) (p : ByteArray → Bool) (e : Ending) (w2 : World) : Prop :=
  ∃ v L, e = .returned v ∧ cnt = L.length ∧ RisesS L ∧ (∀ x, x ∈ L ↔ p x = true) ∧ (∀ x ∈ L, x.size ≤ maxLen) ∧ OwnR rkI w2 w.heap.size v cnt (sv L) ∧ Chg Non w w2

set_option maxRecDepth 100000 in
theorem tbParked_any (w : World) (F : Nat → Prop) (g : Nat) (s : TbS) (h : Tb w F g s) (hs : s.np ≤ 1000000000) :
    Calls Try.prog 18 #[.pointer (some ⟨g, 0, none⟩)] w (NamesPost w s.np (fun x => (s.K x).isSome)) := by
  obtain ⟨⟨A, n, c, m1, m2, hn, hb, ho, hm, hm2, hne, h1, h2, h3, h4⟩, h5⟩ := h
  obtain ⟨_, c1, c2, _⟩ := cells4 hb
  have hg := hb.lt
  have hk := parkedKeys w (some m2)
  have hso := parkedSorted w m2 s.np (onF s.K) hm2 hs
  clear hb ho hm hm2
  go_enter Try.func18, Try.ntmps18
  go_wp2_with fail
  refine hk.mono ?_
  rintro e w2 ⟨rfl, rfl⟩
  go_wp2_with fail
  refine hso.mono ?_
  rintro e w2 ⟨v, k, L, rfl, rfl, hL, hr, hm, hz, hown, hC⟩
  obtain ⟨A2, c2, rfl, _⟩ := hown.open_
  have Hm : Hid (∀ x, x ∈ L ↔ (s.K x).isSome = true) := fun x => by rw [hm]; unfold onF; simp
  have Hz := Lib.hid hz
  have Hr := Lib.hid hr
  have HL := Lib.hid hL
  clear hm hz hr hL hk hso
  go_wp2_with fail
  go_ret
  exact ⟨_, L, rfl, HL.out, Hr.out, Hm.out, Hz.out, hown, hC⟩

set_option maxRecDepth 100000 in
theorem tbGoing_any (w : World) (F : Nat → Prop) (g : Nat) (s : TbS) (h : Tb w F g s) (hs : s.ng ≤ 1000000000) :
    Calls Try.prog 19 #[.pointer (some ⟨g, 0, none⟩)] w (NamesPost w s.ng s.G) := by
  obtain ⟨⟨A, n, c, m1, m2, hn, hb, ho, hm, hm2, hne, h1, h2, h3, h4⟩, h5⟩ := h
  obtain ⟨_, c1, c2, _⟩ := cells4 hb
  have hg := hb.lt
  have hk := goingKeys w (some m1)
  have hso := goingSorted w m1 s.ng (setF s.G) hm hs
  clear hb ho hm hm2
  go_enter Try.func19, Try.ntmps19
  go_wp2_with fail
  refine hk.mono ?_
  rintro e w2 ⟨rfl, rfl⟩
  go_wp2_with fail
  refine hso.mono ?_
  rintro e w2 ⟨v, k, L, rfl, rfl, hL, hr, hm, hz, hown, hC⟩
  obtain ⟨A2, c2, rfl, _⟩ := hown.open_
  have Hm : Hid (∀ x, x ∈ L ↔ s.G x = true) := fun x => by rw [hm, setF_some]
  have Hz := Lib.hid hz
  have Hr := Lib.hid hr
  have HL := Lib.hid hL
  clear hm hz hr hL hk hso
  go_wp2_with fail
  go_ret
  exact ⟨_, L, rfl, HL.out, Hr.out, Hm.out, Hz.out, hown, hC⟩

/-- A name goes on no more. -/
def TbS.ends (s : TbS) (id : ByteArray) : TbS := { s with G := fun b => !decide (b = id) && s.G b, ng := cntD (s.G id) s.ng }
theorem TbS.ends_no {s : TbS} {id : ByteArray} (h : s.G id = false) : s.ends id = s := by
  obtain ⟨R, G, ng, K, np, mx⟩ := s
  simp only at h
  unfold TbS.ends
  congr 1
  · funext b
    by_cases e : b = id
    · subst e; simp [h]
    · simp [e]
  · simp [cntD, h]

set_option maxRecDepth 100000 in
set_option maxHeartbeats 400000 in
theorem tbEnd_any (w : World) (F : Nat → Prop) (g : Nat) (s : TbS) (id : ByteArray) (h : Tb w F g s) (hid : id.size ≤ maxLen) :
    Calls Try.prog 16 #[.pointer (some ⟨g, 0, none⟩), .string id] w fun e w2 => e = .returned (.bool (s.G id)) ∧ Tb w2 F g (s.ends id) ∧ Chg F w w2 := by
  obtain ⟨⟨A, n, c, m1, m2, hn, hb, ho, hm, hm2, hne, h1, h2, h3, h4⟩, h5⟩ := h
  obtain ⟨_, c1, c2, _⟩ := cells4 hb
  have hg := hb.lt
  have hgm : g ≠ m1 := fun e => hm.apart hb e.symm
  have q1 := hm.lookS Try.underlying35 (z := .bool false) (by kernel_rfl) hid (u := setF s.G id) rfl
  rw [show (setF s.G id).getD (.bool false) = .bool (s.G id) by unfold setF; cases s.G id <;> rfl] at q1
  have Hb := Lib.hid hb
  have Ho := Lib.hid ho
  have Hm2 := Lib.hid hm2
  clear hb ho hm2
  go_enter Try.func16, Try.ntmps16
  go_wp2_with (at_delete; refine wp_delete_Mp (K := idKey) rfl (.tmp 17) (.tmp 18) 35 rfl hm Try.underlying35 rfl (b := id) hid rfl ?_; intro w6 hm6 hc6)
  go_ret
  rw [setF_some] at hm6
  have hm6 : Mp idKey w6 m1 (cntD (s.G id) s.ng) _ := hm6
  exact ⟨rfl, ⟨⟨A, n, c, m1, m2, hn, Hb.out.chg hc6 (fun e => hgm e), Ho.out.chg hc6 (fun b hb2 e => Ho.out.apartMap hm (by rw [hb2, show b = m1 from e])), hm6.congr (setF_del s.G id), Hm2.out.chg hc6 (fun e => hne e.symm), hne, h1, h2, h3, h4⟩, fun b hb => Nat.lt_of_lt_of_le (h5 b hb) hc6.size⟩, (Chg.refl F w).trans2 hc6 (fun b e => .inl (by rw [show b = m1 from e]; exact h2))⟩

/-- Behind an append onto the ready ones. -/
theorem Tb.appd {w w6 : World} {F : Nat → Prop} {g : Nat} {s : TbS} {A : Option Addr} {n c m1 m2 : Nat} {id : ByteArray} {A6 : Option Addr} {c6 : Nat} (hn : Hid (n = s.R.length)) (hb : Blk w g 40 #[.slice A n c, .map (some m1), .map (some m2), .int .i64 s.mx]) (ho : Win rkI w (.slice A n c) n (sv s.R)) (hm : Mp idKey w m1 s.ng (setF s.G)) (hm2 : Mp idKey w m2 s.np (onF s.K)) (hne : m1 ≠ m2) (h1 : F g) (h2 : F m1) (h3 : F m2) (h4 : ∀ b, (Value.slice A n c).ownBlock = some b → F b) (h5 : ∀ b, F b → b < w.heap.size)
    (h6 : Win rkI w6 (.slice A6 (n + 1) c6) (n + 1) (sv s.R ++ [.string id])) (hc6 : Chg (fun b => (Value.slice A n c).ownBlock = some b) w w6) (hb6 : ∀ b, (Value.slice A6 (n + 1) c6).ownBlock = some b → (Value.slice A n c).ownBlock = some b ∨ w.heap.size ≤ b) :
    ∃ F2, Tb (w6.setCell ⟨g, 0, none⟩ (.slice A6 (n + 1) c6)) F2 g { s with R := s.R ++ [id] } ∧ (∀ b, F2 b → F b ∨ w.heap.size ≤ b) ∧ Chg F w (w6.setCell ⟨g, 0, none⟩ (.slice A6 (n + 1) c6)) := by
  have hk6 := hb.chg hc6 (fun e => ho.apart hb (by decide) e)
  refine ⟨fun b => F b ∨ (Value.slice A6 (n + 1) c6).ownBlock = some b, ⟨⟨A6, n + 1, c6, m1, m2, ?_, ?_, ?_, ?_, ?_, hne, .inl h1, .inl h2, .inl h3, fun b hb => .inr hb⟩, ?_⟩, ?_, ?_⟩
  · show n + 1 = (s.R ++ [id]).length
    have := hn.out
    simp
    omega
  · have := hk6.put 0 (.slice A6 (n + 1) c6)
    simpa using this
  · show Win rkI _ _ _ (sv (s.R ++ [id]))
    rw [sv_snoc]
    exact h6.chg ((Chg.refl _ _).set1 0 _) (fun b hb e => h6.apart hk6 (by decide) (by rw [hb, show b = g from e]))
  · exact (hm.chg hc6 (fun e => ho.apartMap hm e)).chg ((Chg.refl _ _).set1 0 _) (fun e => hm.apart hb e)
  · exact (hm2.chg hc6 (fun e => ho.apartMap hm2 e)).chg ((Chg.refl _ _).set1 0 _) (fun e => hm2.apart hb e)
  · intro b hb
    have hs6 := hc6.size
    simp only [World.setCell, Array.size_modify]
    rcases hb with hb | hb
    · exact Nat.lt_of_lt_of_le (h5 b hb) hs6
    · exact h6.lt hb
  · intro b hb
    rcases hb with hb | hb
    · exact .inl hb
    · exact (hb6 b hb).imp (h4 b) (fun e => e)
  · exact (((Chg.refl F w).trans2 hc6 (fun b e => .inl (h4 b e))).setCell (p := ⟨g, 0, none⟩) (.inl h1) _)

def BackPost (w : World) (F : Nat → Prop) (g : Nat) (s : TbS) (id : ByteArray) (e : Ending) (w2 : World) : Prop :=
  e = .returned (.bool (s.G id)) ∧ ∃ F2, Tb w2 F2 g (if s.G id then { s.ends id with R := s.R ++ [id] } else s) ∧ (∀ b, F2 b → F b ∨ w.heap.size ≤ b) ∧ Chg F w w2

set_option maxRecDepth 100000 in
set_option maxHeartbeats 400000 in
theorem tbBack_any (w : World) (F : Nat → Prop) (g : Nat) (s : TbS) (id : ByteArray) (h : Tb w F g s) (hid : id.size ≤ maxLen) (hs : s.R.length ≤ 1000000000) :
    Calls Try.prog 24 #[.pointer (some ⟨g, 0, none⟩), .string id] w (BackPost w F g s id) := by
  have he := tbEnd_any w F g s id h hid
  cases hg : s.G id with
  | false =>
    have Hg := Lib.hid hg
    rw [hg] at he
    clear hg
    go_enter Try.func24, Try.ntmps24
    go_wp2_with fail
    refine he.mono ?_
    rintro e w2 ⟨rfl, hT, hc⟩
    go_wp2_with fail
    go_ret
    exact ⟨by rw [Hg.out]; rfl, F, by rw [Hg.out, if_neg Bool.false_ne_true, ← TbS.ends_no Hg.out]; exact hT, fun b h => .inl h, hc⟩
  | true =>
    have Hg := Lib.hid hg
    rw [hg] at he
    clear hg
    go_enter Try.func24, Try.ntmps24
    go_wp2_with fail
    refine he.mono ?_
    rintro e w2 ⟨rfl, ⟨⟨A, n, c, m1, m2, hn, hb, ho, hm, hm2, hne, h1, h2, h3, h4⟩, h5⟩, hc⟩
    have hb : Blk w2 g 40 #[.slice A n c, .map (some m1), .map (some m2), .int .i64 s.mx] := hb
    have ho : Win rkI w2 (.slice A n c) n (sv s.R) := ho
    obtain ⟨c0, _, _, _⟩ := cells4 hb
    have f0 := hb.frozen 0
    have hgl := hb.lt
    have hn2 : n ≤ 1000000000 := by have := hn.out; show n ≤ _; have e : (s.ends id).R.length = s.R.length := rfl; omega
    have hs2 := hc.size
    go_wp2_with (at_builtin; refine appW1 (K := rkI) rfl (.tmp 14) (.tmp 16) rfl ho rfl (cs := #[.string id]) rfl rfl (sv_one [id]) ?_ ?_; (next => omega); intro v6 w6 h6 hc6 hb6; obtain ⟨A6, c6, rfl, _⟩ := h6.open_; have hk6 := hb.chg hc6 (fun e => ho.apart hb (by decide) e); have c06 := (cells4 hk6).1; have f06 := hk6.frozen 0; have hgl6 := hk6.lt)
    go_ret
    obtain ⟨F2, hT, hF2, hC⟩ := Tb.appd (s := s.ends id) hn hb ho hm hm2 hne h1 h2 h3 h4 h5 h6 hc6 hb6
    exact ⟨by rw [Hg.out]; rfl, F2, by rw [Hg.out, if_pos rfl]; exact hT, fun b h => (hF2 b h).imp (fun h => h) (fun h => by omega), hc.trans hC⟩

/-- A name waits for another one. -/
def TbS.parks (s : TbS) (id on : ByteArray) : TbS := { s.ends id with K := fun b => if b = id then some on else s.K b, np := cntP (s.K id).isSome s.np }
def ParkPost (w : World) (F : Nat → Prop) (g : Nat) (s : TbS) (id on : ByteArray) (e : Ending) (w2 : World) : Prop :=
  e = .returned (.bool (vid on && s.G id)) ∧ Tb w2 F g (if vid on && s.G id then s.parks id on else s) ∧ Chg F w w2

set_option maxRecDepth 100000 in
set_option maxHeartbeats 400000 in
theorem tbPark_any (w : World) (F : Nat → Prop) (g : Nat) (s : TbS) (id on : ByteArray) (h : Tb w F g s) (hid : id.size ≤ maxLen) (hs : s.np ≤ 1000000000) :
    Calls Try.prog 15 #[.pointer (some ⟨g, 0, none⟩), .string id, .string on] w (ParkPost w F g s id on) := by
  have he := tbEnd_any w F g s id h hid
  have h0 := h
  cases hv : vid on with
  | false =>
    have Hv := Lib.hid hv
    have H0 := Lib.hid h0
    clear hv he h0 h
    go_enter Try.func15, Try.ntmps15
    go_wp2_with fail
    refine (valid_any on _).mono ?_
    rintro e w9 ⟨rfl, rfl⟩
    rw [Hv.out]
    go_wp2_with fail
    go_ret
    exact ⟨by rw [Hv.out]; rfl, by rw [Hv.out]; exact H0.out, Chg.refl _ _⟩
  | true =>
    have Hv := Lib.hid hv
    clear hv h0 h
    cases hg : s.G id with
    | false =>
      have Hg := Lib.hid hg
      rw [hg] at he
      clear hg
      go_enter Try.func15, Try.ntmps15
      go_wp2_with fail
      refine (valid_any on _).mono ?_
      rintro e w9 ⟨rfl, rfl⟩
      rw [Hv.out]
      go_wp2_with fail
      refine he.mono ?_
      rintro e w2 ⟨rfl, hT, hc⟩
      go_wp2_with fail
      go_ret
      exact ⟨by rw [Hv.out, Hg.out]; rfl, by rw [Hv.out, Hg.out, Bool.and_false, if_neg Bool.false_ne_true, ← TbS.ends_no Hg.out]; exact hT, hc⟩
    | true =>
      have Hg := Lib.hid hg
      rw [hg] at he
      clear hg
      go_enter Try.func15, Try.ntmps15
      go_wp2_with fail
      refine (valid_any on _).mono ?_
      rintro e w9 ⟨rfl, rfl⟩
      rw [Hv.out]
      go_wp2_with fail
      refine he.mono ?_
      rintro e w2 ⟨rfl, ⟨⟨A, n, c, m1, m2, hn, hb, ho, hm, hm2, hne, h1, h2, h3, h4⟩, h5⟩, hc⟩
      have hb : Blk w2 g 40 #[.slice A n c, .map (some m1), .map (some m2), .int .i64 s.mx] := hb
      have ho : Win rkI w2 (.slice A n c) n (sv s.R) := ho
      have hm2 : Mp idKey w2 m2 s.np (onF s.K) := hm2
      obtain ⟨_, _, c2, _⟩ := cells4 hb
      have hgl := hb.lt
      have hgm2 : g ≠ m2 := fun e => hm2.apart hb e.symm
      have Hm := Lib.hid hm
      have Ho := Lib.hid ho
      have Hb := Lib.hid hb
      clear hm ho hb
      go_wp2_with (at_mapUpdate; refine wp_store_Mp (K := idKey) rfl (.tmp 20) (.tmp 21) (.tmp 22) 36 rfl hm2 Try.underlying36 (by unfold maxLen; omega) rfl (b := id) hid rfl (u := .string on) rfl ?_; intro w6 hm6 hc6)
      go_ret
      have hm6 : Mp idKey w6 m2 (cntP (s.K id).isSome s.np) (onF fun b => if b = id then some on else s.K b) := by
        have e : (onF s.K id).isSome = (s.K id).isSome := by unfold onF; simp
        rw [e] at hm6
        exact hm6.congr (fun b => by unfold onF; by_cases e : b = id <;> simp [e])
      refine ⟨by rw [Hv.out, Hg.out]; rfl, ?_, hc.trans2 hc6 (fun b e => .inl (by rw [show b = m2 from e]; exact h3))⟩
      rw [Hv.out, Hg.out, Bool.and_true, if_pos rfl]
      exact ⟨⟨A, n, c, m1, m2, hn, Hb.out.chg hc6 (fun e => hgm2 e), Ho.out.chg hc6 (fun b hb2 e => Ho.out.apartMap hm2 (by rw [hb2, show b = m2 from e])), Hm.out.chg hc6 (fun e => hne e), hm6, hne, h1, h2, h3, h4⟩, fun b hb => Nat.lt_of_lt_of_le (h5 b hb) hc6.size⟩

theorem Rds.chgN {w w2 : World} {size n : Nat} {A : Option Addr} {xs : List Value} {S : Nat → Prop} (h : Rds w size A n xs) (hc : Chg S w w2) (hn : 0 < n → ∀ ad, A = some ad → ¬ S ad.block) : Rds w2 size A n xs :=
  ⟨h.1, fun h0 => by
    obtain ⟨ad, e, hx⟩ := h.2 h0
    exact ⟨ad, e, fun j u hu => hc.cell (hx j u hu) (by rw [block_add]; exact hn h0 ad e)⟩⟩

/-- Is a name woken? -/
def TbS.wakes (s : TbS) (on : List ByteArray) (x : ByteArray) : Bool := match s.K x with | some o => hasB on o | none => false
/-- Those of W are ready. -/
def TbS.woken (s : TbS) (W : List ByteArray) : TbS := { s with R := s.R ++ W, K := fun b => if hasB W b then none else s.K b, np := s.np - W.length }
def WakePost (w : World) (F : Nat → Prop) (g : Nat) (s : TbS) (on : List ByteArray) (e : Ending) (w2 : World) : Prop :=
  ∃ v W F2, e = .returned v ∧ RisesS W ∧ (∀ x, x ∈ W ↔ s.wakes on x = true) ∧ W.length ≤ s.np ∧ (∀ x ∈ W, x.size ≤ maxLen) ∧ OwnR rkI w2 w.heap.size v W.length (sv W) ∧ Tb w2 F2 g (s.woken W) ∧ (∀ b, F2 b → F b ∨ w.heap.size ≤ b) ∧ (∀ b, v.ownBlock = some b → ¬ F2 b) ∧ Chg F w w2

set_option maxRecDepth 100000 in
set_option maxHeartbeats 2000000 in
theorem tbWake_any (w : World) (F : Nat → Prop) (g : Nat) (s : TbS) (A : Option Addr) (n c : Nat) (on : List ByteArray) (h : Tb w F g s) (hr : Rds w 1 A n (sv on)) (hn : n ≤ 9223372036854775807) (hA : 0 < n → ∀ ad, A = some ad → ¬ F ad.block) (hs : s.np ≤ 100000000) (hR : s.R.length ≤ 100000000) :
    Calls Try.prog 20 #[.pointer (some ⟨g, 0, none⟩), .slice A n c] w (WakePost w F g s on) := by
  have hpk := tbParked_any w F g s h (by omega)
  have Hr := Lib.hid hr
  have HA := Lib.hid hA
  have H := Lib.hid h
  have hgl0 : g < w.heap.size := by obtain ⟨⟨A, n, c, m1, m2, hn, hb, _⟩, _⟩ := h; exact hb.lt
  clear hr hA h
  go_enter Try.func20, Try.ntmps20
  go_wp2_with fail
  refine hpk.mono ?_
  rintro e w1 ⟨vS, S, rfl, hS, hrise, hmem, hsz, hown, hC1⟩
  have hT1 := H.out.non hC1
  have hs1 := hC1.size
  obtain ⟨AS, cS, rfl, _, _, hrS, hoS⟩ := hown.open_
  have HrS := Lib.hid hrS
  have HoS : Hid (∀ ad, AS = some ad → w.heap.size ≤ ad.block ∧ ad.block < w1.heap.size) := fun ad e => hown.lt (hoS ad e)
  have HS := Lib.hid hS
  have Hrise := Lib.hid hrise
  have Hmem := Lib.hid hmem
  have Hsz := Lib.hid hsz
  have hnpl : s.np ≤ 9223372036854775807 := by omega
  clear hpk hown hrS hoS hS hrise hmem hsz
  generalize hnp : s.np = N at *
  have Hnp := Lib.hid hnp
  clear hnp
  go_wp2_with fail
  go_loopw [5, 13] (fun v i wr => ∃ (k m : Nat) (F2 : Nat → Prop), k ≤ N ∧ i = .int .i64 k ∧ m ≤ k ∧ Hid (m = ((S.take k).filter (s.wakes on)).length) ∧ OwnR rkI wr w1.heap.size v m (sv ((S.take k).filter (s.wakes on))) ∧ Tb wr F2 g (s.woken ((S.take k).filter (s.wakes on))) ∧ (∀ b, F2 b → F b ∨ w1.heap.size ≤ b) ∧ (∀ b, v.ownBlock = some b → ¬ F2 b) ∧ Chg F w1 wr) (fun _ i _ => N - (intOf i).toNat)
  case atStart =>
    refine ⟨0, 0, F, Nat.zero_le _, rfl, Nat.le_refl _, rfl, OwnR.nil _ _ _, ?_, fun b h => .inl h, (fun b h => by cases h), Chg.refl _ _⟩
    have e : s.woken ((S.take 0).filter (s.wakes on)) = s := by
      obtain ⟨R, G, ng, K, np, mx⟩ := s
      simp only [TbS.woken, List.take_zero, List.filter_nil, List.append_nil, List.length_nil, Nat.sub_zero]
      rfl
    rw [e]
    exact hT1
  case round =>
    clear hT1
    obtain ⟨k, m, F2, hk, rfl, hmk, Hm, hout, hT, hF2, hvF, hC⟩ := hrel
    have hs2 := hC.size
    by_cases hlt : k < N
    · obtain ⟨ad, x, rfl, hx, hcx⟩ := HrS.out.getS hlt
      have hadb := HoS.out ad rfl
      have hFw : ∀ b, F b → b < w.heap.size := H.out.lt
      have a0 := hC.cell hcx (fun e => by rw [block_add] at e; have := hFw _ e; omega)
      have hxsz := Hsz.out x (List.mem_of_getElem? hx)
      have hKx := (Hmem.out x).1 (List.mem_of_getElem? hx)
      have hst : S.take (k + 1) = S.take k ++ [x] := by rw [List.take_add_one, hx]; rfl
      have hxn : x ∉ S.take k := by
        intro hm
        have hnd := rises_nodupS Hrise.out
        obtain ⟨j, hj, hjx⟩ := List.getElem_of_mem hm
        rw [List.length_take] at hj
        rw [List.getElem_take] at hjx
        obtain ⟨hkl, hkx⟩ := List.getElem?_eq_some_iff.1 hx
        have := (List.getElem_inj hnd).1 (hjx.trans hkx.symm)
        omega
      cases hkx : s.K x with
      | none => rw [hkx] at hKx; cases hKx
      | some o =>
        have hww : s.wakes on x = hasB on o := by unfold TbS.wakes; rw [hkx]
        obtain ⟨⟨A2, n2, c2, m1, m2, hn2, hb, ho, hm1, hm2, hne, h1, h2, h3, h4⟩, h5⟩ := hT
        generalize hWk : (S.take k).filter (s.wakes on) = Wk at hn2 hb ho hm1 hm2 hout Hm
        have hxW : x ∉ Wk := by rw [← hWk]; exact fun h => hxn (List.mem_filter.1 h).1
        obtain ⟨c0, c1, c2c, _⟩ := cells4 hb
        have hgl := hb.lt
        have hxB : hasB Wk x = false := hasB_false.2 hxW
        have hmv : Mp idKey wr m2 (N - Wk.length) (onF (s.woken Wk).K) := by have := hm2; rw [← Hnp.out]; exact this
        have q1 := hmv.lookS Try.underlying36 (z := .string ⟨#[]⟩) (by kernel_rfl) hxsz (u := some (.string o)) (by
          show (if hasB Wk x then none else s.K x).map Value.string = _
          rw [hxB, if_neg Bool.false_ne_true, hkx]; rfl)
        simp only [Option.getD_some] at q1
        have hro := (Hr.out.non hC1).chgN hC HA.out
        have hcon := containsI_any wr A n c on o hro hn
        rw [← hww] at hcon
        cases hwk : s.wakes on x with
        | false =>
          have e1 : (S.take (k + 1)).filter (s.wakes on) = Wk := by rw [hst, List.filter_append, hWk]; simp [hwk]
          rw [hwk] at hcon
          have hT2 : Tb wr F2 g (s.woken ((S.take (k + 1)).filter (s.wakes on))) := by rw [e1]; exact ⟨⟨A2, n2, c2, m1, m2, hn2, hb, ho, hm1, hm2, hne, h1, h2, h3, h4⟩, h5⟩
          have HT2 := Lib.hid hT2
          rw [← e1] at hout Hm
          clear hx hcx hst hxn hKx hkx hww hwk hWk e1 hb ho hm1 hm2 hmv hT2 hxW hxB hro
          go_wp2_with fail
          refine hcon.mono ?_
          rintro e w8 ⟨rfl, rfl⟩
          go_wp2_with fail
          go_roundw
          case rel => exact ⟨k + 1, m, F2, by omega, by go_num, by omega, Hm, hout, HT2.out, hF2, hvF, hC⟩
          case measure => simp [intOf]; omega
        | true =>
          have e1 : (S.take (k + 1)).filter (s.wakes on) = Wk ++ [x] := by rw [hst, List.filter_append, hWk]; simp [hwk]
          rw [hwk] at hcon
          have E1 := Lib.hid e1
          have hgm2 : g ≠ m2 := fun e => hmv.apart hb e.symm
          have hRl : n2 ≤ 200000001 := by have h9 := hn2.out; have e : (s.woken Wk).R.length = s.R.length + Wk.length := (by simp [TbS.woken]); have h8 := Hm.out; omega
          have hfm : (onF (s.woken Wk).K x).isSome = true := by
            show ((if hasB Wk x then none else s.K x).map Value.string).isSome = true
            rw [hxB, if_neg Bool.false_ne_true, hkx]; rfl
          have Hkx := Lib.hid hkx
          have HxW := Lib.hid hxB
          have hvo : ∀ b, u5.ownBlock = some b → ∀ b2, F2 b2 → b ≠ b2 := fun b h b2 h2 e => hvF b h (e ▸ h2)
          have hWl : Wk.length = m := Hm.out.symm
          have HWl := Lib.hid hWl
          clear hx hcx hst hxn hKx hkx hww hwk hWk e1 hxW hxB hro hm2 hWl
          go_wp2_with fail
          refine hcon.mono ?_
          rintro e w8 ⟨rfl, rfl⟩
          have hsz := hC.size
          go_wp2_with (first
            | (at_delete; refine wp_delete_Mp (K := idKey) rfl (.tmp 30) (.tmp 31) 36 rfl hmv Try.underlying36 rfl (b := x) hxsz rfl ?_; intro w6 hm6 hc6; have hb6 := hb.chg hc6 (fun e => hgm2 e); have ho6 := ho.chg hc6 (fun b hb2 e => ho.apartMap hmv (by rw [hb2, show b = m2 from e])); have hm16 := hm1.chg hc6 (fun e => hne e); have hout6 := hout.chg hc6 (fun b hb2 e => hvo b hb2 m2 h3 e); have c06 := (cells4 hb6).1; have f06 := hb6.frozen 0; have hgl6 := hb6.lt)
            | (at_builtin; refine appW1 (K := rkI) rfl (.tmp 37) (.tmp 39) rfl ho6 rfl (cs := #[.string x]) rfl rfl (sv_one [x]) ?_ ?_; (next => omega); intro v7 w7 h7 hc7 hb7; obtain ⟨A7, c7, rfl, _⟩ := h7.open_; have hk7 := hb6.chg hc7 (fun e => ho6.apart hb6 (by decide) e); have c07 := (cells4 hk7).1; have f07 := hk7.frozen 0; have hgl7 := hk7.lt; have hout7 := hout6.chg hc7 (fun b hb2 e => hvo b hb2 b (h4 b e) rfl); obtain ⟨w77, hw77⟩ : ∃ w77, w7.setCell ⟨g, 0, none⟩ (.slice A7 (n2 + 1) c7) = w77 := ⟨_, rfl⟩; have hS7 : Chg (fun b => b = g) w7 w77 := hw77 ▸ (Chg.refl _ _).set1 0 _; have hout77 := hout7.chg hS7 (fun b hb2 e => hvo b hb2 g h1 e); have hs77 : w1.heap.size ≤ w77.heap.size := (by have := hc6.size; have := hc7.size; have := hS7.size; omega))
            | (at_builtin; refine appR1 (K := rkI) rfl (.tmp 44) (.tmp 46) rfl hout77 rfl (cs := #[.string x]) rfl rfl (sv_one [x]) ?_ ?_ ?_; (next => omega); (next => exact hs77); intro v9 w9 o9 c9 hv9))
          have hT7 : ∃ F3, Tb w77 F3 g (s.woken (Wk ++ [x])) ∧ (∀ b, F3 b → F2 b ∨ wr.heap.size ≤ b) ∧ (∀ b, F3 b → b < w77.heap.size) ∧ Chg F2 wr w77 := by
            rw [hfm, if_pos rfl] at hm6
            have hC26 : Chg F2 wr w6 := (Chg.refl F2 wr).trans2 hc6 (fun b e => .inl (by rw [show b = m2 from e]; exact h3))
            obtain ⟨F3, hT3, hF3, hC3⟩ := Tb.appd (s := { s.woken Wk with K := fun b => if hasB (Wk ++ [x]) b then none else s.K b, np := s.np - (Wk ++ [x]).length }) hn2 hb6 ho6 hm16 (by
              refine (show Mp idKey w6 m2 _ _ from ?_)
              have e2 : N - Wk.length - 1 = s.np - (Wk ++ [x]).length := by rw [Hnp.out, List.length_append, List.length_singleton]; omega
              rw [e2] at hm6
              refine hm6.congr (fun b => ?_)
              show (if b = x then none else (if hasB Wk b then none else s.K b).map Value.string) = (if hasB (Wk ++ [x]) b then none else s.K b).map Value.string
              by_cases e : b = x
              · subst e
                rw [if_pos rfl, hasB_true.2 (by simp), if_pos rfl]; rfl
              · rw [if_neg e]
                by_cases hbw : b ∈ Wk
                · rw [hasB_true.2 hbw, hasB_true.2 (List.mem_append_left _ hbw)]
                · rw [hasB_false.2 hbw, hasB_false.2 (by simp [hbw, e])]) hne h1 h2 h3 h4 (fun b hb => Nat.lt_of_lt_of_le (h5 b hb) hC26.size) h7 hc7 hb7
            rw [hw77] at hT3 hC3
            refine ⟨F3, ?_, fun b h => (hF3 b h).imp (fun h => h) (fun h => Nat.le_trans hC26.size h), hT3.lt, hC26.trans hC3⟩
            have e3 : ({ { s.woken Wk with K := fun b => if hasB (Wk ++ [x]) b then none else s.K b, np := s.np - (Wk ++ [x]).length } with R := (s.woken Wk).R ++ [x] } : TbS) = s.woken (Wk ++ [x]) := by
              simp only [TbS.woken, List.append_assoc]
            rw [← e3]
            exact hT3
          obtain ⟨F3, hT3, hF3, hF3l, hC3⟩ := hT7
          have hvF3 : ∀ b, u5.ownBlock = some b → ¬ F3 b := fun b h h2 => (hF3 b h2).elim (hvF b h) (fun h3 => by have := (hout.lt h).2; omega)
          have hT9 := hT3.chg c9 (fun b h e => hvF3 b e h)
          have hF9 : ∀ b, F3 b → F b ∨ w1.heap.size ≤ b := fun b h => (hF3 b h).elim (hF2 b) (fun h => .inr (by omega))
          have hv9F : ∀ b, v9.ownBlock = some b → ¬ F3 b := fun b h h2 => by
            rcases hv9 with e | e
            · rw [e] at h; exact hvF3 b h h2
            · rw [e] at h
              have := Option.some.inj h
              have := hF3l b h2
              omega
          have hC9 : Chg F w1 w9 := (hC.trans2 hC3 (fun b e => (hF2 b e))).trans2 c9 (fun b e => .inr (hout.lt e).1)
          have Hm9 : Hid (m + 1 = ((S.take (k + 1)).filter (s.wakes on)).length) := by show _ = _; rw [E1.out, List.length_append, List.length_singleton, HWl.out]
          rw [← E1.out] at hT9
          rw [show sv Wk ++ (#[.string x] : Array Value).toList = sv ((S.take (k + 1)).filter (s.wakes on)) from by rw [E1.out]; simp [sv]] at o9
          clear hT3 hout hout6 hout7 hout77 hb6 ho6 hm16 hm6 h7 hk7 hb ho hm1 hmv
          go_roundw
          case rel => exact ⟨k + 1, m + 1, F3, by omega, by go_num, by omega, Hm9, o9, hT9, hF9, hv9F, hC9⟩
          case measure => simp [intOf]; omega
    · have hst : S.take k = S := List.take_of_length_le (by have := HS.out; omega)
      rw [hst] at hout hT Hm
      have hW : ∀ x, x ∈ S.filter (s.wakes on) ↔ s.wakes on x = true := fun x => by
        rw [List.mem_filter, Hmem.out]
        refine ⟨fun h => h.2, fun h => ⟨?_, h⟩⟩
        unfold TbS.wakes at h
        cases hk : s.K x with
        | none => rw [hk] at h; cases h
        | some o => rfl
      have HW := Lib.hid hW
      have hm : m ≤ N := by omega
      have hmW := Hm.out
      clear hst hW
      go_wp2_with fail
      go_ret
      refine ⟨_, S.filter (s.wakes on), F2, rfl, List.Pairwise.filter _ Hrise.out, HW.out, by rw [Hnp.out]; omega, fun x hx => Hsz.out x (List.mem_filter.1 hx).1, ?_, hT, fun b h => (hF2 b h).imp (fun h => h) (fun h => by omega), hvF, (hC1.of_non).trans2 hC (fun b e => .inl e)⟩
      rw [← hmW]
      exact hout.mono hs1
end Go.Proofs.Ytfglikgifkpfpaa
