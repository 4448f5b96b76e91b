/-
  cache.Cache: what it holds; New, use, oldest.
-/
import Derived.Test.YtogmnhneobdklaaNmDelete
import Derived.Test.YtogmnhneobdklaaSets
import Derived.Test.YtogmnhneobdklaaIdentValid
namespace Go.Proofs.Ytogmnhneobdklaa
open Go.RowKit
set_option linter.unusedVariables false
set_option linter.unusedSimpArgs false

noncomputable abbrev idKey : KeyKind Try.prog 27 ByteArray := strKey Try.underlying27
theorem Win.apartMap {P : Program} {K : RowKind P} {w : World} {v : Value} {n : Nat} {xs : List Value} (h : Win K w v n xs) {k : TypeId} {α : Type} {KK : KeyKind P k α} {g m : Nat} {f : α → Option Value} (hm : Mp KK w g m f) : v.ownBlock ≠ some g := by
  rcases h.2 with ⟨rfl, _⟩ | ⟨g2, o, c, cur, rfl, hh, _⟩
  · simp [Value.ownBlock]
  · intro he
    have : g2 = g := by simpa [Value.ownBlock] using he
    subst this
    exact hm.apart hh rfl
theorem sv_snoc (L : List ByteArray) (x : ByteArray) : sv (L ++ [x]) = sv L ++ [.string x] := by simp [sv]

abbrev Res := Int × Int
def resF (r : ByteArray → Option Res) (a : ByteArray) : Option Value := (r a).map fun x => .agg #[.int .i64 x.1, .int .i64 x.2]
theorem resF_some (r : ByteArray → Option Res) (a : ByteArray) : (resF r a).isSome = (r a).isSome := by unfold resF; cases r a <;> rfl
/-- What a cache holds: names by their use, how many there may be, results (and how many). -/
structure CaS where
  R : List ByteArray
  size : Int
  res : ByteArray → Option Res
  nr : Nat
/-- Block g is a cache; mw: its map of who waits; F: the blocks that it uses, but for who waits. -/
structure Ca (w : World) (F : Nat → Prop) (g mw : Nat) (s : CaS) : Prop where
  mk_ ::
  is : ∃ A c mr, Blk w g 42 #[.slice A s.R.length c, .int .i64 s.size, .map (some mr), .map (some mw)] ∧ Win rkI w (.slice A s.R.length c) s.R.length (sv s.R) ∧ Mp idKey w mr s.nr (resF s.res) ∧ F g ∧ F mr ∧ (∀ b, (Value.slice A s.R.length c).ownBlock = some b → F b)
  lt : ∀ b, F b → b < w.heap.size
theorem Ca.chg {w w2 : World} {F S : Nat → Prop} {g mw : Nat} {s : CaS} (h : Ca w F g mw s) (hc : Chg S w w2) (hs : ∀ b, F b → ¬ S b) : Ca w2 F g mw s := by
  obtain ⟨⟨A, c, mr, hb, ho, hm, h1, h2, h4⟩, h5⟩ := h
  exact ⟨⟨A, c, mr, hb.chg hc (hs _ h1), ho.chg hc (fun b e => hs _ (h4 b e)), hm.chg hc (hs _ h2), h1, h2, h4⟩, fun b hb => Nat.lt_of_lt_of_le (h5 b hb) hc.size⟩
theorem Ca.non {w w2 : World} {F : Nat → Prop} {g mw : Nat} {s : CaS} (h : Ca w F g mw s) (hc : Chg Non w w2) : Ca w2 F g mw s := h.chg hc fun _ _ => id
theorem Ca.gF {w : World} {F : Nat → Prop} {g mw : Nat} {s : CaS} (h : Ca w F g mw s) : F g ∧ g < w.heap.size := by
  obtain ⟨⟨A, c, mr, hb, _, _, h1, _⟩, _⟩ := h
  exact ⟨h1, hb.lt⟩
theorem Ca.g3 {w : World} {F : Nat → Prop} {g mw : Nat} {s : CaS} (h : Ca w F g mw s) : w.cell? ⟨g, 3, none⟩ = some (.map (some mw)) := by
  obtain ⟨⟨A, c, mr, hb, _⟩, _⟩ := h
  exact hb.cell 3
/-- What New lays. -/
def NewPost (w : World) (size : Int) (e : Ending) (w2 : World) : Prop :=
  ∃ g mw, e = .returned (.pointer (some ⟨g, 0, none⟩)) ∧ Ca w2 (fun b => w.heap.size ≤ b ∧ b < w2.heap.size ∧ b ≠ mw) g mw ⟨[], size, fun _ => none, 0⟩ ∧ Mp idKey w2 mw 0 (fun _ => none) ∧ w.heap.size ≤ mw ∧ mw < w2.heap.size ∧ Chg Non w w2
theorem cacheNew_any (size : Int) (hs : 1 ≤ size) (w : World) : Calls Try.prog 6 #[.int .i64 size] w (NewPost w size) := by
  have hmm := @run_makeMap Try.prog
  have key : NewPost w size (.returned (.pointer (some ⟨w.heap.size + 2, 0, none⟩))) (((w.alloc (.map #[] 0)).alloc (.map #[] 0)).alloc (.cells #[.slice none 0 0, .int .i64 size, .map (some w.heap.size), .map (some (w.heap.size + 1))] 42)) := by
    have hC := (((Chg.refl Non w).alloc (.map #[] 0)).alloc (.map #[] 0)).alloc (.cells #[.slice none 0 0, .int .i64 size, .map (some w.heap.size), .map (some (w.heap.size + 1))] 42)
    have hm1 := Mp.made idKey w
    have hm2 := Mp.made idKey (w.alloc (.map #[] 0))
    rw [World.size_alloc] at hm2
    refine ⟨w.heap.size + 2, w.heap.size + 1, rfl, ⟨⟨none, 0, w.heap.size, ?_, Win.nil _ _, ((hm1.alloc _).alloc _).congr (fun a => rfl), ?_, ?_, ?_⟩, fun b hb => hb.2.1⟩, (hm2.alloc _).congr (fun a => rfl), by omega, by simp, hC⟩
    · have := Blk.new ((w.alloc (.map #[] 0)).alloc (.map #[] 0)) 42 #[.slice none 0 0, .int .i64 size, .map (some w.heap.size), .map (some (w.heap.size + 1))]
      simpa using this
    · exact ⟨by omega, by simp, by omega⟩
    · exact ⟨by omega, by simp; omega, by omega⟩
    · intro b hb; simp [Value.ownBlock] at hb
  have Key := Lib.hid key
  clear key
  by_cases h1 : size = 1
  · subst h1
    go_enter Try.func6, Try.ntmps6
    go_wp2_with fail
    go_ret
    exact Key.out
  · have h2 : 1 < size := by omega
    clear h1 hs
    go_enter Try.func6, Try.ntmps6
    go_wp2_with fail
    go_ret
    exact Key.out

/-- A name put to the end. -/
def useR (R : List ByteArray) (id : ByteArray) : List ByteArray := kept (fun m => decide (m = id)) R ++ [id]
theorem useR_new {R : List ByteArray} {id : ByteArray} (h : id ∉ R) : useR R id = R ++ [id] := by
  unfold useR
  rw [kept_all]
  intro m hm
  exact decide_eq_false (fun e => h (e ▸ hm))
set_option maxRecDepth 100000 in
theorem use1_any (w : World) (g : Nat) (m id : ByteArray) (hb : w.cell? ⟨g, 0, none⟩ = some (.string id)) :
    Calls Try.prog 23 #[.string m, .pointer (some ⟨g, 0, none⟩)] w fun e w2 => e = .returned (.bool (decide (m = id))) ∧ Chg Non w w2 := by
  by_cases h : m = id
  · subst h
    go_enter Try.func23, Try.ntmps23
    go_wp2_with fail
    go_ret
    exact ⟨by simp, Chg.refl _ _⟩
  · have e2 := str_ne h
    have H := Lib.hid h
    clear h
    go_enter Try.func23, Try.ntmps23
    go_wp2_with fail
    go_ret
    exact ⟨by simp [H.out], Chg.refl _ _⟩
/-- What use does. -/
def UsePost (w : World) (g : Nat) (A : Option Addr) (n c : Nat) (R : List ByteArray) (x y z : Value) (e : Ending) (w2 : World) : Prop :=
  e = .returned (.tuple #[]) ∧ ∃ A2 c2, Blk w2 g 42 #[.slice A2 R.length c2, x, y, z] ∧ Win rkI w2 (.slice A2 R.length c2) R.length (sv R) ∧ (∀ b, (Value.slice A2 R.length c2).ownBlock = some b → (Value.slice A n c).ownBlock = some b ∨ w.heap.size ≤ b) ∧ Chg (fun b => b = g ∨ (Value.slice A n c).ownBlock = some b) w w2

set_option maxRecDepth 100000 in
set_option maxHeartbeats 2000000 in
theorem use_any (w : World) (g : Nat) (A : Option Addr) (c : Nat) (R : List ByteArray) (x y z : Value) (id : ByteArray) (hb : Blk w g 42 #[.slice A R.length c, x, y, z]) (ho : Win rkI w (.slice A R.length c) R.length (sv R)) (hR : R.length ≤ 1000000) :
    Calls Try.prog 16 #[.pointer (some ⟨g, 0, none⟩), .string id] w (UsePost w g A R.length c (useR R id) x y z) := by
  have hcf : ∀ (args : Array Value) (w : World), (callFunc 23 args).run Try.prog w = .ok (.enter 23 args) w := enters Try.func23 (by kernel_rfl) rfl
  obtain ⟨w1, hw1⟩ : ∃ w1, w.alloc (.cells #[.string id] 27) = w1 := ⟨_, rfl⟩
  have hC1 : Chg Non w w1 := hw1 ▸ (Chg.refl _ _).alloc _
  have hbx : Blk w1 w.heap.size 27 #[.string id] := hw1 ▸ Blk.new _ _ _
  have hb1 := hb.non hC1
  have ho1 := ho.non hC1
  have hgl := hb.lt
  have hg1 := hb1.lt
  have c0 := hb1.cell 0
  simp only [List.getElem?_toArray, List.getElem?_cons_zero] at c0
  have hown : ∀ b, (Value.slice A R.length c).ownBlock = some b → b < w.heap.size := fun b h => ho.lt h
  have hogg : ∀ b, (Value.slice A R.length c).ownBlock = some b → b ≠ g := fun b h e => ho.apart hb (by decide) (by rw [h, e])
  have hD := deleteFuncS_any w1 A c R 23 (.pointer (some ⟨w.heap.size, 0, none⟩)) (fun m => decide (m = id)) ho1 hcf (fun w2 m hc hm => use1_any w2 w.heap.size m id (hc.cell (hbx.cell 0) (fun e => by have := hown _ e; simp at this)))
  have Hcf := Lib.hid hcf
  have Hogg := Lib.hid hogg
  have Hown := Lib.hid hown
  have Hb1 := Lib.hid hb1
  clear hcf hb ho ho1 hogg hown hb1
  go_enter Try.func16, Try.ntmps16
  go_wp2_with fail
  refine hD.mono ?_
  rintro e w2 ⟨rfl, ho2, hc2⟩
  have hb2 := Hb1.out.chg hc2 (fun e => Hogg.out g e rfl)
  have hbx2 := hbx.chg hc2 (fun e => by have := Hown.out _ e; simp at this)
  have c02 := hb2.cell 0
  have f02 := hb2.frozen 0
  simp only [List.getElem?_toArray, List.getElem?_cons_zero] at c02
  have hg2 := hb2.lt
  clear hD c0
  generalize hK : kept (fun m => decide (m = id)) R = K at ho2 ⊢
  have hKl : K.length ≤ R.length := by rw [← hK]; exact List.length_filter_le _ _
  have HK := Lib.hid hK
  clear hK
  go_wp2_with fail
  obtain ⟨w3, hw3⟩ : ∃ w3, w2.setCell ⟨g, 0, none⟩ (.slice A K.length c) = w3 := ⟨_, rfl⟩
  have hS3 : Chg (fun b => b = g) w2 w3 := hw3 ▸ (Chg.refl _ w2).set1 0 _
  have hb3 := hb2.put 0 (.slice A K.length c)
  simp only [List.setIfInBounds_toArray, List.set_cons_zero] at hb3
  rw [hw3] at hb3
  rw [hw3]
  have hog : ∀ b, (Value.slice A K.length c).ownBlock = some b → b ≠ g := fun b h e => Hogg.out b (by cases A <;> exact h) e
  have ho3 := ho2.chg hS3 (fun b h e => hog b h e)
  have hbx3 := hbx2.chg hS3 (fun e => by have e : w.heap.size = g := e; omega)
  have hC3 : Chg (fun b => b = g ∨ (Value.slice A R.length c).ownBlock = some b) w w3 := (hC1.of_non.trans2 hc2 (fun b e => .inl (.inr e))).trans2 hS3 (fun b e => .inl (.inl e))
  have k0 : ∀ wx, Chg (fun b => (Value.slice A K.length c).ownBlock = some b) w3 wx → wx.cell? ⟨g, 0, none⟩ = some (.slice A K.length c) := fun wx h => h.cell (hb3.cell 0) (fun e => hog _ e rfl)
  have kx : ∀ wx, Chg (fun b => (Value.slice A K.length c).ownBlock = some b) w3 wx → wx.cell? ⟨w.heap.size, 0, none⟩ = some (.string id) := fun wx h => h.cell (hbx3.cell 0) (fun e => by have := Hown.out _ (show (Value.slice A R.length c).ownBlock = some _ by cases A <;> exact e); simp at this)
  have hlt3 : ∀ b, (Value.slice A K.length c).ownBlock = some b → b < w3.heap.size := fun b h => ho3.lt h
  have hs13 : w.heap.size ≤ w3.heap.size := hC3.size
  clear hw3 hS3 hc2 hb2 ho2 hbx hbx2 c02 f02 hw1
  go_wp2_with fail
  refine st_region_tail 12 10 (fun b => (Value.slice A K.length c).ownBlock = some b) [7] [6] (fun _ _ v w2 => Win rkI w2 v (K.length + 1) (sv K ++ [.string id]) ∧ (∀ b, v.ownBlock = some b → (Value.slice A K.length c).ownBlock = some b ∨ w3.heap.size ≤ b)) (fun _ _ _ _ => True) (fun _ _ v => ∃ A n c, v = .slice A n c) (fun w2 => Win rkI w2 (.slice A K.length c) K.length (sv K)) (by kernel_rfl) (by kernel_rfl) (by kernel_rfl) hlt3 ho3 (fun _ _ h => h.alloc _) ?_
  repeat (first | (refine st_pass (by rfl) ?_; simp only [Act.put, List.setIfInBounds_toArray, List.set_cons_succ, List.set_cons_zero]) | (refine st_plain (fun b => (Value.slice A K.length c).ownBlock = some b) (w3) rfl rfl (f := ?_) (by rfl) rfl rfl (fun w hC hG => ?_) ?_; rotate_left; (clear hG; first | (go_simp; done) | (go_simp; with_reducible rfl) | (simp [*, go_sem, ↓IntWalk.iteOmega]; done) | (simp [*, go_sem, ↓IntWalk.iteOmega]; with_reducible rfl)); simp only [Act.put, List.setIfInBounds_toArray, List.set_cons_succ, List.set_cons_zero]))
  refine st_minor (fun b => (Value.slice A K.length c).ownBlock = some b) w3 rfl rfl (ob := .cells #[.string id] 27) (kd := some (1, 1)) (by rfl) rfl rfl (fun w hC hG => by clear hG; go_simp; rfl) (fun g2 => ?_)
  simp only [Act.put, List.setIfInBounds_toArray, List.set_cons_succ, List.set_cons_zero]
  refine st_major (fun b => (Value.slice A K.length c).ownBlock = some b) (w3) rfl rfl (by rfl) rfl (⟨.slice none 0 0, none, 0, 0, rfl⟩) (fun _ _ _ _ _ _ => trivial) (fun v w ob h => ⟨h.1.alloc ob, h.2⟩) (fun w hC hG hS => ?_) ?_
  · have hB := Rds.blockN (m := 1) (size := 1) (show Blk w g2 27 #[.string id] from (hG 6 rfl).2) rfl
    refine settle_appW (K := rkI) (.tmp 17) (.tmp 19) rfl hS rfl hB rfl (svI_one [id]) (by omega) ?_
    intro v2 w2 h2 h3 h4
    obtain ⟨A2, c2, rfl, _⟩ := h2.open_
    exact ⟨⟨_, _, _, rfl⟩, h3, ⟨h2, fun b hb => (h4 b hb).imp (fun h => h) (fun h => by have := hC.size; omega)⟩, trivial⟩
  · rintro v4 ⟨A4, n4, c4, rfl⟩
    simp only [Act.put, List.setIfInBounds_toArray, List.set_cons_succ, List.set_cons_zero]
    repeat (first | (refine st_pass (by rfl) ?_; simp only [Act.put, List.setIfInBounds_toArray, List.set_cons_succ, List.set_cons_zero]) | (refine st_plain (fun b => (Value.slice A K.length c).ownBlock = some b) (w3) rfl rfl (f := ?_) (by rfl) rfl rfl (fun w hC hG => ?_) ?_; rotate_left; (clear hG; first | (go_simp; done) | (go_simp; with_reducible rfl) | (simp [*, go_sem, ↓IntWalk.iteOmega]; done) | (simp [*, go_sem, ↓IntWalk.iteOmega]; with_reducible rfl)); simp only [Act.put, List.setIfInBounds_toArray, List.set_cons_succ, List.set_cons_zero]))
    refine st_tail (fun b => (Value.slice A K.length c).ownBlock = some b) w3 rfl rfl rfl (fun w7 hC7 hS7 _ => ?_)
    simp only [List.drop_succ_cons, List.drop_zero]
    obtain ⟨ho7, hob7⟩ := hS7
    obtain rfl : n4 = K.length + 1 := by
      obtain ⟨A5, c5, e, _⟩ := ho7.open_
      injection e
    have hb7 := hb3.chg hC7 (fun e => hog _ e rfl)
    have c07 := hb7.cell 0
    have f07 := hb7.frozen 0
    simp only [List.getElem?_toArray, List.getElem?_cons_zero] at c07
    have hfin : UsePost w g A R.length c (useR R id) x y z (.returned (.tuple #[])) (w7.setCell ⟨g, 0, none⟩ (.slice A4 (K.length + 1) c4)) := by
      have hS8 : Chg (fun b => b = g) w7 (w7.setCell ⟨g, 0, none⟩ (.slice A4 (K.length + 1) c4)) := (Chg.refl _ _).set1 0 _
      have hb8 := hb7.put 0 (.slice A4 (K.length + 1) c4)
      simp only [List.setIfInBounds_toArray, List.set_cons_zero] at hb8
      have hC8 : Chg (fun b => b = g ∨ (Value.slice A R.length c).ownBlock = some b) w w7 := hC3.trans2 hC7 (fun b e => .inl (.inr (by cases A <;> exact e)))
      have hul : (useR R id).length = K.length + 1 := by unfold useR; rw [HK.out]; simp
      have hus : sv (useR R id) = sv K ++ [.string id] := by unfold useR; rw [HK.out, sv_snoc]
      refine ⟨rfl, A4, c4, by rw [hul]; exact hb8, by rw [hul, hus]; exact ho7.chg hS8 (fun b h e => ho7.apart hb7 (by decide) (by rw [h, show b = g from e])), fun b h => ?_, hC8.trans2 hS8 (fun b e => .inl (.inl e))⟩
      rw [hul] at h
      rcases hob7 b h with h2 | h2
      · exact .inl (by cases A <;> exact h2)
      · exact .inr (by omega)
    have Hfin := Lib.hid hfin
    clear hfin ho7 hob7 hC7 hb7 hb3 k0 kx hlt3 hbx3 hC3 ho3
    go_wp2_with fail
    go_end0
    exact Hfin.out
/-- What oldest does. -/
def OldPost (w : World) (g : Nat) (A : Option Addr) (n c : Nat) (id : ByteArray) (R : List ByteArray) (x y z : Value) (e : Ending) (w2 : World) : Prop :=
  e = .returned (.string id) ∧ Blk w2 g 42 #[.slice A R.length c, x, y, z] ∧ Win rkI w2 (.slice A R.length c) R.length (sv R) ∧ Chg (fun b => b = g ∨ (Value.slice A n c).ownBlock = some b) w w2
set_option maxRecDepth 100000 in
set_option maxHeartbeats 1000000 in
theorem oldest_any (w : World) (g : Nat) (A : Option Addr) (c : Nat) (id : ByteArray) (R : List ByteArray) (x y z : Value) (hb : Blk w g 42 #[.slice A (R.length + 1) c, x, y, z]) (ho : Win rkI w (.slice A (R.length + 1) c) (R.length + 1) (sv (id :: R))) :
    Calls Try.prog 17 #[.pointer (some ⟨g, 0, none⟩)] w (OldPost w g A (R.length + 1) c id R x y z) := by
  have c0 := hb.cell 0
  simp only [List.getElem?_toArray, List.getElem?_cons_zero] at c0
  have hgl := hb.lt
  have hsm := ho.small
  obtain ⟨A0, n0, e0, hnc, _, hr⟩ := ho.open_
  injection e0 with e1 e2 e3
  subst e1 e3
  obtain ⟨ad, v, rfl, hy, hcy⟩ := Rds.getS hr (k := 0) (by omega)
  obtain rfl : v = id := by simpa using hy.symm
  have hxc : w.cell? ad = some (.string v) := by simpa [Addr.add] using hcy
  have hag : ad.block ≠ g := fun e => ho.apart hb (by decide) (by rw [← e]; rfl)
  clear hcy hr hy
  go_enter Try.func17, Try.ntmps17
  go_wp2_with fail
  refine (delFirst_any w ad c v R ho).mono ?_
  rintro e w2 ⟨rfl, ho2, hc2⟩
  have hb2 := hb.chg hc2 (fun e => hag e.symm)
  have c02 := hb2.cell 0
  have f02 := hb2.frozen 0
  simp only [List.getElem?_toArray, List.getElem?_cons_zero] at c02
  have hg2 := hb2.lt
  clear hb c0
  go_wp2_with fail
  go_ret
  have hS1 : Chg (fun b => b = g) w2 (w2.setCell ⟨g, 0, none⟩ (.slice (some ad) R.length c)) := (Chg.refl _ _).set1 0 _
  have hk1 := hb2.put 0 (.slice (some ad) R.length c)
  simp only [List.setIfInBounds_toArray, List.set_cons_zero] at hk1
  refine ⟨rfl, hk1, ho2.chg hS1 (fun b hb e => hag (by have hb : some ad.block = some b := hb; rw [Option.some.inj hb]; exact e)), (hc2.mono (fun b e => .inr (by rw [show b = ad.block from e]; rfl))).trans2 hS1 (fun b e => .inl (.inl e))⟩
end Go.Proofs.Ytogmnhneobdklaa
