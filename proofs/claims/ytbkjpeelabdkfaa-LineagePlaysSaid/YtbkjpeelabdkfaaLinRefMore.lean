/-
  gleanerref14.Log: Spawned, Orphans, Of.
-/
import Derived.Test.YtbkjpeelabdkfaaLinRef
import Derived.Test.YtbkjpeelabdkfaaRefValid
import Derived.Test.YtbkjpeelabdkfaaNmPut
import Derived.Test.YtbkjpeelabdkfaaVwRefHas
namespace Go.Proofs.Ytbkjpeelabdkfaa
open Go.RowKit
set_option linter.unusedVariables false
set_option linter.unusedSimpArgs false

theorem fL_mem {L : List Rr} {a : ByteArray} (h : fL L a = none) : a ∉ L.map (·.id) := by
  intro hm
  obtain ⟨x, hx, he⟩ := List.mem_map.1 hm
  unfold fL at h
  rw [List.findIdx?_eq_none_iff] at h
  have := h x hx
  exact (of_decide_eq_false this) he
/-- With names that are all different the log tells each of its records. -/
theorem ls_of_mem {L : List Rr} (hn : (L.map (·.id)).Nodup) {x : Rr} (hx : x ∈ L) : lsOf L x.id = some x.rc := by
  induction L with
  | nil => simp at hx
  | cons y L ih =>
    rw [lsOf_cons]
    rw [List.map_cons, List.nodup_cons] at hn
    rcases List.mem_cons.1 hx with rfl | hx
    · rw [if_pos rfl]
    · rw [if_neg (fun e => hn.1 (List.mem_map.2 ⟨x, hx, e.symm⟩)), ih hn.2 hx]
theorem mem_of_ls {L : List Rr} {a : ByteArray} {r : Rc} (h : lsOf L a = some r) : ∃ x ∈ L, x.id = a ∧ x.rc = r := by
  unfold lsOf at h
  cases hf : L.find? fun x => decide (x.id = a) with
  | none => rw [hf] at h; cases h
  | some x =>
    rw [hf] at h
    exact ⟨x, List.mem_of_find?_eq_some hf, by simpa using List.find?_some hf, Option.some.inj h⟩
theorem OwnR.lenS2 {w : World} {base n : Nat} {v : Value} {l : List ByteArray} (h : OwnR rkI w base v n (sv l)) : n = l.length := by
  have h1 := h.len
  have e : (rkI).size = 1 := rfl
  rw [e] at h1
  simp [sv] at h1
  exact h1.symm
def RSpPost (w : World) (F : Nat → Prop) (g : Nat) (L : List Rr) (node epoch : Int) (I : List ByteArray) (e : Ending) (w2 : World) : Prop :=
  e = .returned (.int .i64 (spawnN (lsOf L) node epoch I).2) ∧ ∃ F2 L2, Rl w2 F2 g L2 ∧ lsOf L2 = (spawnN (lsOf L) node epoch I).1 ∧ (L2.map (·.id)).Nodup ∧ L2.length ≤ L.length + I.length ∧ (∀ b, F2 b → F b ∨ w.heap.size ≤ b) ∧ Chg F w w2

set_option maxRecDepth 100000 in
set_option maxHeartbeats 4000000 in
theorem refSpawned_any (w : World) (F : Nat → Prop) (g : Nat) (L : List Rr) (h : Rl w F g L) (hnd : (L.map (·.id)).Nodup) (hLl : L.length ≤ 1000000) (node epoch : Int) (A : Option Addr) (q c : Nat) (I : List ByteArray) (hr : Rds w 1 A q (sv I)) (hA : ∀ ad, A = some ad → 0 < q → ¬ F ad.block) (hq : q ≤ 1000000) (hI : ∀ a ∈ I, a.size ≤ 1000000) :
    Calls Try.prog 19 #[.pointer (some ⟨g, 0, none⟩), .int .i64 node, .int .i64 epoch, .slice A q c] w (RSpPost w F g L node epoch I) := by
  have Hll := Lib.hid (hr.lenMap (f := Value.string))
  have HI := Lib.hid hI
  have hAl : ∀ ad, A = some ad → 0 < q → ad.block < w.heap.size := fun ad e h => by
    obtain ⟨ad2, x, e2, _, h3⟩ := hr.getS h
    rw [e] at e2
    obtain rfl := Option.some.inj e2
    have h4 := World.block_lt_of_cell? w _ h3
    rw [block_add] at h4
    exact h4
  have Hr := Lib.hid hr
  clear hr hI
  go_enter Try.func19, Try.ntmps19
  go_wp2_with fail
  go_loopw [9, 10] (fun p i wr => ∃ (k : Nat) (L2 : List Rr) (F2 : Nat → Prop), k ≤ q ∧ i = .int .i64 k ∧ p = .int .i64 (spawnN (lsOf L) node epoch (I.take k)).2 ∧ 0 ≤ (spawnN (lsOf L) node epoch (I.take k)).2 ∧ (spawnN (lsOf L) node epoch (I.take k)).2 ≤ k ∧ Rl wr F2 g L2 ∧ Hid (lsOf L2 = (spawnN (lsOf L) node epoch (I.take k)).1) ∧ Hid ((L2.map (·.id)).Nodup) ∧ Hid (L2.length ≤ L.length + k) ∧ (∀ b, F2 b → F b ∨ w.heap.size ≤ b) ∧ Chg F w wr) (fun _ i _ => q - (intOf i).toNat)
  case atStart => exact ⟨0, L, F, Nat.zero_le _, rfl, rfl, Int.le_refl _, Int.le_refl _, h, rfl, hnd, Nat.le_refl _, fun b h => .inl h, Chg.refl _ _⟩
  case round =>
    clear h hnd
    obtain ⟨k, L2, F2, hk, rfl, rfl, hc0, hck, hRl, hls, hnd2, hll2, hF2, hC⟩ := hrel
    by_cases hlt : k < q
    · obtain ⟨ad, a, rfl, ha, hca⟩ := Hr.out.getS hlt
      have hTF : ¬ F2 ad.block := fun h => (hF2 _ h).elim (hA ad rfl (by omega)) (fun h => by have := hAl ad rfl (by omega); omega)
      have a0 := hC.cell hca (by rw [block_add]; exact hA ad rfl (by omega))
      have al := World.block_lt_of_cell? wr _ a0
      have has := HI.out a (List.mem_of_getElem? ha)
      have hst := spawn_step ha (lsOf L) node epoch
      have hval := refValid_any a wr (by omega)
      generalize hT : spawnN (lsOf L) node epoch (I.take k) = T at hc0 hck hls hst ⊢
      clear ha hca hT
      obtain ⟨s2, cnt⟩ := T
      have hc0 : 0 ≤ cnt := hc0
      have hck : cnt ≤ (k : Int) := hck
      have hls : Hid (lsOf L2 = s2) := hls
      show _
      cases hv : vid a with
      | false =>
        have hst2 : Hid (spawnN (lsOf L) node epoch (I.take (k + 1)) = (s2, cnt)) := by show _ = _; rw [hst]; unfold spawn1; rw [hv]; rfl
        rw [hv] at hval
        clear hst hv
        go_wp2_with fail
        refine hval.mono ?_
        rintro e w9 ⟨rfl, rfl⟩
        go_wp2_with fail
        go_roundw
        case rel => exact ⟨k + 1, L2, F2, by omega, by go_num, by rw [hst2.out], by rw [hst2.out]; exact hc0, by rw [hst2.out]; show cnt ≤ _; omega, hRl, by rw [hst2.out]; exact hls, hnd2, (by show _ ≤ _; have := hll2.out; omega), hF2, hC⟩
        case measure => simp [intOf]; omega
      | true =>
        rw [hv] at hval
        have hfi := refFind_any wr F2 g L2 a hRl
        cases hf : fL L2 a with
        | some j =>
          obtain ⟨x, hx, hxa, hx2⟩ := ls_some hf
          rw [iL_some hf] at hfi
          have hst2 : Hid (spawnN (lsOf L) node epoch (I.take (k + 1)) = (s2, cnt)) := by show _ = _; rw [hst]; unfold spawn1; rw [show (s2, cnt).1 a = some x.rc from by show s2 a = _; rw [← hls.out]; exact hx2]; simp
          have hjn : (0 : Int) ≤ (j : Int) := by omega
          clear hst hv hf hx hx2 hxa
          go_wp2_with fail
          refine hval.mono ?_
          rintro e w9 ⟨rfl, rfl⟩
          go_wp2_with fail
          refine hfi.mono ?_
          rintro e w9 ⟨rfl, rfl⟩
          clear hfi hval
          go_wp2_with fail
          go_roundw
          case rel => exact ⟨k + 1, L2, F2, by omega, by go_num, by rw [hst2.out], by rw [hst2.out]; exact hc0, by rw [hst2.out]; show cnt ≤ _; omega, hRl, by rw [hst2.out]; exact hls, hnd2, (by show _ ≤ _; have := hll2.out; omega), hF2, hC⟩
          case measure => simp [intOf]; omega
        | none =>
          rw [iL_none hf] at hfi
          have hst2 : Hid (spawnN (lsOf L) node epoch (I.take (k + 1)) = (setR s2 a ⟨node, epoch, 1, false⟩, cnt + 1)) := by show _ = _; rw [hst]; unfold spawn1; rw [show (s2, cnt).1 a = none from by show s2 a = _; rw [← hls.out]; exact ls_none hf, hv]; rfl
          have hwr : IntKind.i64.wrap (cnt + 1) = cnt + 1 := by rw [IntKind.wrap_i64]; omega
          have hpush := Lib.hid (ls_push ⟨node, epoch, 1, false⟩ hf)
          have hnm := Lib.hid (fL_mem hf)
          obtain ⟨⟨A2, n2, c2, hn2, h1, h2, hb, ho, h3, h4, h5⟩, h6⟩ := hRl
          have hn2l : n2 ≤ 2000000 := by have := hn2.out; have := hll2.out; omega
          have hTa : ¬ (Value.slice A2 n2 c2).ownBlock = some ad.block := fun e => hTF (h4 _ e)
          have hgl := hb.lt
          clear hst hv hf
          go_wp2_with fail
          refine hval.mono ?_
          rintro e w9 ⟨rfl, rfl⟩
          go_wp2_with fail
          refine hfi.mono ?_
          rintro e w9 ⟨rfl, rfl⟩
          clear hfi hval
          go_wp2_with fail
          have k1 : ∀ wx, Chg (fun b => (Value.slice A2 n2 c2).ownBlock = some b) wr wx → wx.cell? ⟨g, 0, none⟩ = some (.slice A2 n2 c2) := fun wx h => h.cell (hb.cell 0) (fun e => h5 e)
          have ka : ∀ wx, Chg (fun b => (Value.slice A2 n2 c2).ownBlock = some b) wr wx → wx.cell? (ad.add k) = some (.string a) := fun wx h => h.cell a0 (by rw [block_add]; exact hTa)
          clear a0
          refine st_region_tail 8 16 (fun b => (Value.slice A2 n2 c2).ownBlock = some b) [13] [12] (fun _ _ v w2 => OwnR rkL w2 0 v (n2 + 1) (lvs L2 ++ cellL ⟨a, node, epoch, 1, false⟩) ∧ (∀ b, v.ownBlock = some b → (Value.slice A2 n2 c2).ownBlock = some b ∨ wr.heap.size ≤ b)) (fun _ _ _ _ => True) (fun _ _ v => ∃ A n c, v = .slice A n c) (fun w2 => OwnR rkL w2 0 (.slice A2 n2 c2) n2 (lvs L2)) (by kernel_rfl) (by kernel_rfl) (by kernel_rfl) (fun b h => h6 b (h4 b h)) ho (fun _ _ h => h.alloc _) ?_
          repeat (first | (refine st_pass (by rfl) ?_; simp only [Act.put, List.setIfInBounds_toArray, List.set_cons_succ, List.set_cons_zero]) | (refine st_plain (fun b => (Value.slice A2 n2 c2).ownBlock = some b) (wr) rfl rfl (f := ?_) (by rfl) rfl rfl (fun w hC hG => ?_) ?_; rotate_left; (clear hG; first | (go_simp; done) | (go_simp; with_reducible rfl) | (simp [*, go_sem, ↓IntWalk.iteOmega]; done) | (simp [*, go_sem, ↓IntWalk.iteOmega]; with_reducible rfl)); simp only [Act.put, List.setIfInBounds_toArray, List.set_cons_succ, List.set_cons_zero]))
          refine st_minor (fun b => (Value.slice A2 n2 c2).ownBlock = some b) wr rfl rfl (ob := .cells #[.string a, .int .i64 node, .int .i64 epoch, .int .i64 1, .bool false] 75) (kd := some (1, 1)) (by rfl) rfl rfl (fun w hC hG => by clear hG; go_simp; rfl) (fun g2 => ?_)
          simp only [Act.put, List.setIfInBounds_toArray, List.set_cons_succ, List.set_cons_zero]
          refine st_major (fun b => (Value.slice A2 n2 c2).ownBlock = some b) (wr) rfl rfl (by rfl) rfl (⟨.slice none 0 0, none, 0, 0, rfl⟩) (fun _ _ _ _ _ _ => trivial) (fun v w ob h => ⟨h.1.alloc ob, h.2⟩) (fun w hC hG hS => ?_) ?_
          · have hB := Rds.blockN (m := 1) (size := 5) (show Blk w g2 75 #[.string a, .int .i64 node, .int .i64 epoch, .int .i64 1, .bool false] from (hG 12 rfl).2) rfl
            refine settle_appR (K := rkL) (.tmp 37) (.tmp 45) rfl hS rfl hB rfl (cellL_one ⟨a, node, epoch, 1, false⟩) (by omega) (Nat.zero_le _) ?_
            intro v2 w2 i2 i3 i4
            obtain ⟨A4, c4, rfl, _⟩ := i2.open_
            refine ⟨⟨_, _, _, rfl⟩, i3, ⟨i2, fun b hb => ?_⟩, trivial⟩
            rcases i4 with i4 | i4
            · exact .inl (i4 ▸ hb)
            · rw [i4] at hb
              obtain rfl := Option.some.inj hb
              exact .inr (by have := hC.size; omega)
          · rintro v4 ⟨A4, n4, c4, rfl⟩
            simp only [Act.put, List.setIfInBounds_toArray, List.set_cons_succ, List.set_cons_zero]
            repeat (first | (refine st_pass (by rfl) ?_; simp only [Act.put, List.setIfInBounds_toArray, List.set_cons_succ, List.set_cons_zero]) | (refine st_plain (fun b => (Value.slice A2 n2 c2).ownBlock = some b) (wr) rfl rfl (f := ?_) (by rfl) rfl rfl (fun w hC hG => ?_) ?_; rotate_left; (clear hG; first | (go_simp; done) | (go_simp; with_reducible rfl) | (simp [*, go_sem, ↓IntWalk.iteOmega]; done) | (simp [*, go_sem, ↓IntWalk.iteOmega]; with_reducible rfl)); simp only [Act.put, List.setIfInBounds_toArray, List.set_cons_succ, List.set_cons_zero]))
            refine st_tail (fun b => (Value.slice A2 n2 c2).ownBlock = some b) wr rfl rfl rfl (fun w7 hC7 hS7 _ => ?_)
            simp only [List.drop_succ_cons, List.drop_zero]
            obtain ⟨ho7, hob7⟩ := hS7
            obtain ⟨gb, cb, hv, hcb, hcm, _, _⟩ := ho7.form (by omega)
            injection hv with e1 e2 e3
            subst e1 e2 e3
            have hb7 := hb.chg hC7 (fun e => h5 e)
            have hgne : gb ≠ g := fun e => by
              rcases hob7 gb rfl with h | h
              · exact h5 (by rw [h, e])
              · omega
            have c17 : w7.cell? ⟨g, 0, none⟩ = some (.slice A2 n2 c2) := hb7.cell 0
            have f17 := hb7.frozen 0
            have o8 := ho7.chg ((Chg.refl (fun b => b = g) w7).set1 0 (.slice (some ⟨gb, 0, none⟩) (n2 + 1) c4)) (fun b hb e => hgne ((Option.some.inj hb).trans e))
            have hb8 := hb7.put 0 (.slice (some ⟨gb, 0, none⟩) (n2 + 1) c4)
            simp only [List.setIfInBounds_toArray, List.set_cons_succ, List.set_cons_zero] at hb8
            have hgbF : F2 gb ∨ wr.heap.size ≤ gb := (hob7 gb rfl).elim (fun h => .inl (h4 gb h)) .inr
            have hCs := hC.size
            have cC7 : Chg F w w7 := hC.trans2 hC7 (fun b e => hF2 b (h4 b e))
            have hgF : F g ∨ w.heap.size ≤ g := hF2 g h3
            have cC8 := cC7.setCell (p := ⟨g, 0, none⟩) hgF (.slice (some ⟨gb, 0, none⟩) (n2 + 1) c4)
            have hfin : Rl (w7.setCell ⟨g, 0, none⟩ (.slice (some ⟨gb, 0, none⟩) (n2 + 1) c4)) (fun b => F2 b ∨ b = gb) g (L2 ++ [⟨a, node, epoch, 1, false⟩]) := by
              refine ⟨⟨some ⟨gb, 0, none⟩, n2 + 1, c4, ?_, hcb, hcm, hb8, ?_, .inl h3, fun b hb => .inr (Option.some.inj hb).symm, fun e => hgne (Option.some.inj e)⟩, fun b hb => ?_⟩
              · show n2 + 1 = _
                rw [List.length_append, List.length_singleton, hn2.out]
              · rw [show lvs (L2 ++ [⟨a, node, epoch, 1, false⟩]) = lvs L2 ++ cellL ⟨a, node, epoch, 1, false⟩ from flat_snoc cellL L2 ⟨a, node, epoch, 1, false⟩]
                exact o8
              · rcases hb with hb | rfl
                · have := h6 b hb
                  have := hC7.size
                  simp [World.setCell]; omega
                · exact (o8.lt rfl).2
            have Hfin := Lib.hid hfin
            have hFw2 : ∀ b, (F2 b ∨ b = gb) → F b ∨ w.heap.size ≤ b := fun b hb => hb.elim (hF2 b) (fun e => by rw [e]; exact hgbF.elim (hF2 gb) (fun h => .inr (by omega)))
            have hndN : Hid (((L2 ++ [⟨a, node, epoch, 1, false⟩] : List Rr).map (·.id)).Nodup) := by
              show List.Nodup _
              rw [List.map_append, List.nodup_append]
              refine ⟨hnd2.out, by simp, ?_⟩
              intro x hx y hy e
              simp at hy
              rw [e, hy] at hx
              exact hnm.out hx
            have hlsN : Hid (lsOf (L2 ++ [⟨a, node, epoch, 1, false⟩]) = setR s2 a ⟨node, epoch, 1, false⟩) := by show _ = _; rw [hpush.out, hls.out]
            have hllN : Hid ((L2 ++ [⟨a, node, epoch, 1, false⟩] : List Rr).length ≤ L.length + (k + 1)) := by show _ ≤ _; rw [List.length_append, List.length_singleton]; have := hll2.out; omega
            clear hfin o8 hb8 ho7 hob7 hb7 hC7 k1 ka hb ho cC7 hgF hgbF
            go_wp2_with fail
            go_roundw
            case rel => exact ⟨k + 1, _, _, by omega, by go_num, by rw [hst2.out], by rw [hst2.out]; show 0 ≤ cnt + 1; omega, by rw [hst2.out]; show cnt + 1 ≤ _; omega, Hfin.out, by rw [hst2.out]; exact hlsN, hndN, hllN, hFw2, cC8⟩
            case measure => simp [intOf]; omega
    · have hst : I.take k = I := List.take_of_length_le (by have := Hll.out; omega)
      rw [hst] at hls ⊢
      have hlen := Hll.out
      have hll3 : Hid (L2.length ≤ L.length + I.length) := by show _ ≤ _; have := hll2.out; omega
      clear hst hlen hc0 hck
      go_wp2_with fail
      go_ret
      exact ⟨rfl, F2, L2, hRl, hls.out, hnd2.out, hll3.out, hF2, hC⟩

/-- The names, rising, of those behind k records of which something holds. -/
def outR (L : List Rr) (p : Rr → Bool) (k : Nat) : List ByteArray := risenS (((L.take k).filter p).map (·.id))
theorem outR_step {L : List Rr} {p : Rr → Bool} {k : Nat} {x : Rr} (h : L[k]? = some x) : outR L p (k + 1) = if p x then riseS x.id (outR L p k) else outR L p k := by
  unfold outR
  rw [List.take_add_one, h, List.filter_append, List.map_append]
  cases hp : p x
  · simp [hp]
  · simp only [Option.toList_some, List.filter_cons, hp, if_true, List.filter_nil, List.map_cons, List.map_nil]
    rw [risenS_snoc]
theorem outR_le (L : List Rr) (p : Rr → Bool) (k : Nat) : (outR L p k).length ≤ k := by
  unfold outR
  refine Nat.le_trans (risenS_le _) ?_
  rw [List.length_map]
  exact Nat.le_trans (List.length_filter_le _ _) (List.length_take_le _ _)
theorem outR_mem {L : List Rr} (hn : (L.map (·.id)).Nodup) (p : Rc → Bool) {k : Nat} (hk : L.length ≤ k) (a : ByteArray) : a ∈ outR L (fun x => !x.rc.ended && p x.rc) k ↔ suchP (lsOf L) p a = true := by
  unfold outR
  rw [(risenS_spec _).2, List.take_of_length_le hk, List.mem_map]
  constructor
  · rintro ⟨x, hx, rfl⟩
    obtain ⟨h1, h2⟩ := List.mem_filter.1 hx
    unfold suchP
    rw [ls_of_mem hn h1]
    exact h2
  · intro h
    unfold suchP at h
    cases hs : lsOf L a with
    | none => rw [hs] at h; cases h
    | some r =>
      rw [hs] at h
      obtain ⟨x, hx, he, hr⟩ := mem_of_ls hs
      exact ⟨x, List.mem_filter.2 ⟨hx, by rw [hr]; exact h⟩, he⟩

set_option maxRecDepth 100000 in
set_option maxHeartbeats 4000000 in
theorem refOf_any (w : World) (F : Nat → Prop) (g : Nat) (L : List Rr) (h : Rl w F g L) (hnd : (L.map (·.id)).Nodup) (hLl : L.length ≤ 1000000) (node : Int) :
    Calls Try.prog 27 #[.pointer (some ⟨g, 0, none⟩), .int .i64 node] w (SuPost w (lsOf L) (fun r => r.node == node)) := by
  obtain ⟨⟨A, n, c, hn, h1, h2, hb, ho, h3, h4, h5⟩, h6⟩ := h
  have Hb := Lib.hid hb
  have Ho := Lib.hid ho
  have Hnd := Lib.hid hnd
  have hnl : n ≤ 1000000 := by have := hn.out; omega
  unfold maxLen at h2
  have c1 : ∀ wx, Chg Non w wx → wx.cell? ⟨g, 0, none⟩ = some (.slice A n c) := fun wx h => (hb.non h).cell 0
  have C1 := Lib.hid c1
  have hgl := hb.lt
  clear hb ho hnd c1
  go_enter Try.func27, Try.ntmps27
  go_wp2_with fail
  go_loopw [5, 6] (fun v i wr => ∃ (k m : Nat), k ≤ n ∧ i = .int .i64 k ∧ Hid (m = (outR L (fun x => !x.rc.ended && (x.rc.node == node)) k).length) ∧ OwnR rkI wr w.heap.size v m (sv (outR L (fun x => !x.rc.ended && (x.rc.node == node)) k)) ∧ Chg Non w wr) (fun _ i _ => n - (intOf i).toNat)
  case atStart => exact ⟨0, 0, Nat.zero_le _, rfl, rfl, OwnR.nil _ _ _, Chg.refl _ _⟩
  case round =>
    obtain ⟨k, m, hk, rfl, hm, hout, hC⟩ := hrel
    have c1 := C1.out wr hC
    have hgl2 : g < wr.heap.size := by have := hC.size; omega
    by_cases hlt : k < n
    · obtain ⟨gb, cc, hv, _⟩ := Ho.out.form (by omega)
      injection hv with e1 e2 e3
      subst e1 e3
      have hkl : k < L.length := by have := hn.out; omega
      obtain ⟨x, hx⟩ : ∃ x, L[k]? = some x := ⟨_, List.getElem?_eq_getElem hkl⟩
      have hst := outR_step (p := fun x => !x.rc.ended && (x.rc.node == node)) hx
      have hor := Ho.out.non hC
      have x0 : wr.cell? ⟨gb, k * 5, none⟩ = some (.string x.id) := hor.cellN cellL_len hx (j := 0) rfl
      have x1 : wr.cell? ⟨gb, k * 5 + 1, none⟩ = some (.int .i64 x.rc.node) := hor.cellN cellL_len hx (j := 1) rfl
      have x4 : wr.cell? ⟨gb, k * 5 + 4, none⟩ = some (.bool x.rc.ended) := hor.cellN cellL_len hx (j := 4) rfl
      have hbl := World.block_lt_of_cell? wr _ x4
      have b1 : (0 : Int) ≤ (k : Int) := by omega
      have b2 : (k : Int) < n := by omega
      have hlen := outR_le L (fun x => !x.rc.ended && (x.rc.node == node)) k
      have hmk : m ≤ 1000000 := by have := hm.out; omega
      generalize outR L (fun x => !x.rc.ended && (x.rc.node == node)) k = O at hm hout hst hlen
      cases hnode : (x.rc.node == node) with
      | false =>
        have hst2 : Hid (outR L (fun x => !x.rc.ended && (x.rc.node == node)) (k + 1) = O) := by show _ = _; rw [hst, hnode]; simp
        clear hst hx hor
        go_wp2_with fail
        go_roundw
        case rel => exact ⟨k + 1, m, by omega, by go_num, by rw [hst2.out]; exact hm, by rw [hst2.out]; exact hout, hC⟩
        case measure => simp [intOf]; omega
      | true =>
        cases he : x.rc.ended with
        | true =>
          have hst2 : Hid (outR L (fun x => !x.rc.ended && (x.rc.node == node)) (k + 1) = O) := by show _ = _; rw [hst, he]; simp
          rw [he] at x4
          clear hst hx hor he
          go_wp2_with fail
          go_roundw
          case rel => exact ⟨k + 1, m, by omega, by go_num, by rw [hst2.out]; exact hm, by rw [hst2.out]; exact hout, hC⟩
          case measure => simp [intOf]; omega
        | false =>
          have hst2 : Hid (outR L (fun x => !x.rc.ended && (x.rc.node == node)) (k + 1) = riseS x.id O) := by show _ = _; rw [hst, he, hnode]; rfl
          rw [he] at x4
          have hPut := putS_any wr w.heap.size _ m O x.id hout hC.size (by omega)
          clear hst hx hor he
          go_wp2_with fail
          refine hPut.mono ?_
          clear hPut
          rintro e w8 ⟨v8, n8, rfl, ho8, hc8, _⟩
          have hn8 : Hid (n8 = (riseS x.id O).length) := ho8.lenS2
          clear x0 x1 x4 c1
          go_wp2_with fail
          go_roundw
          case rel => exact ⟨k + 1, n8, by omega, by go_num, by rw [hst2.out]; exact hn8, by rw [hst2.out]; exact ho8, hC.non hc8⟩
          case measure => simp [intOf]; omega
    · have hmem := outR_mem Hnd.out (fun r => r.node == node) (k := k) (by have := hn.out; omega)
      have hris : RisesS (outR L (fun x => !x.rc.ended && (x.rc.node == node)) k) := (risenS_spec _).1
      have Hmem := Lib.hid hmem
      have Hris := Lib.hid hris
      clear hmem hris hm
      obtain ⟨A3, c3, rfl, _⟩ := hout.open_
      go_wp2_with fail
      go_ret
      exact ⟨A3, m, c3, _, rfl, Hris.out, Hmem.out, hout, hC⟩
end Go.Proofs.Ytbkjpeelabdkfaa
