/-
  gleanerref1: names: Valid, Kid.
  Entries told from the deepest task up: right, whole; two turned around: the same commits. Plain.
  What an evaluation gathers: names under a name, each once; what is awaited is there. Plain.
  gleanerref4.(*Known).Begin: a state to begin with.
  The object of an evaluation and its entries; a task under way: what each step keeps. Plain.
-/
import Derived.Test.YteinbdifncdaiaaTdOwn
import Derived.Test.YteinbdifncdaiaaTdCms
import Derived.Test.YteinbdifncdaiaaTdDeepResume
import Derived.Test.YteinbdifncdaiaaTdDeepSt
import Derived.Test.YteinbdifncdaiaaTdDeepStk
namespace Go.Proofs.Yteinbdifncdaiaa
open Go.RowKit
set_option linter.unusedVariables false
set_option linter.unusedSimpArgs false

theorem refValid_any (s : ByteArray) (w : World) (hs : s.size ≤ 9223372036854775807) :
    Calls Try.prog 50 #[.string s] w fun e w2 => e = .returned (.bool (vid s)) ∧ w = w2 := by
  go_enter Try.func50, Try.ntmps50
  go_wp2_with fail
  go_loop [3] (fun i => ∃ k : Nat, k ≤ s.size ∧ k ≤ 13 ∧ i = .int .i64 k ∧ Hid ((s.data.toList.take k).all okD = true)) (fun i => s.size - (intOf i).toNat)
  case atStart => exact ⟨0, Nat.zero_le _, by omega, rfl, rfl⟩
  case round =>
    obtain ⟨k, hk, hk13, rfl, hall⟩ := hrel
    by_cases hlt : k < s.size
    · by_cases h13 : k ≤ 12
      · have hst := take_step s hlt
        have hmem := List.mem_of_getElem? (get_list s hlt)
        by_cases hb : s[k].toNat < 16
        · have hall2 : Hid ((s.data.toList.take (k + 1)).all okD = true) := by
            show _ = _
            rw [hst, List.all_append, hall.out]
            simp [okD, hb]
          clear hst hmem hall
          go_wp2_with fail
          go_round
          case rel => exact ⟨k + 1, by omega, by omega, by go_num, hall2⟩
          case measure => simp [intOf]; omega
        · have hno : vid s = false := by
            unfold vid
            rw [Bool.and_eq_false_iff]
            right
            rw [List.all_eq_false]
            exact ⟨s[k], hmem, by simp [okD]; omega⟩
          have Hno := Lib.hid hno
          clear hst hmem hall hno
          go_wp2_with fail
          go_ret
          exact ⟨by rw [Hno.out]; rfl, rfl⟩
      · have hno : vid s = false := by
          unfold vid
          rw [Bool.and_eq_false_iff]
          left
          simp; omega
        have Hno := Lib.hid hno
        have d1 : decide ((s.size : Int) ≤ 12) = false := by simp; omega
        clear hall hno
        go_wp2_with fail
        go_ret
        exact ⟨by rw [Hno.out]; first | rfl | (rw [← d1]; rfl), rfl⟩
    · have hks : k = s.size := by omega
      have hyes : vid s = decide (s.size ≤ 12) := by
        unfold vid
        have := hall.out
        rw [hks, take_whole] at this
        rw [this, Bool.and_true]
      have Hyes := Lib.hid hyes
      clear hyes hall
      go_wp2_with fail
      go_ret
      refine ⟨?_, rfl⟩
      rw [Hyes.out]
      show Ending.returned (.bool (decide ((s.size : Int) ≤ 12))) = _
      congr 2
      rw [decide_eq_decide]
      omega

set_option maxRecDepth 100000 in
theorem refKid_any (s : ByteArray) (k : Int) (w : World) (hk : i64 k) (hs : s.size ≤ 9223372036854775807) :
    Calls Try.prog 33 #[.string s, .int .i64 k] w fun e w2 => e = .returned (.tuple #[.string (kid s k).1, .bool (kid s k).2]) ∧ Chg Non w w2 := by
  unfold i64 at hk
  have hk1 := hk.1
  have hk2 := hk.2
  clear hk
  by_cases hall : vid s = true ∧ s.size < 12 ∧ 0 ≤ k ∧ k < 16
  · have hkd : kid s k = (s ++ ⟨#[UInt8.ofNat k.toNat]⟩, true) := by unfold kid; rw [if_pos hall]
    have Hkd := Lib.hid hkd
    obtain ⟨hv, h12, h0, h16⟩ := hall
    have hy : k = ((UInt8.ofNat k.toNat).toNat : Int) := by rw [UInt8.toNat_ofNat']; omega
    have q : (convert 54 26 (.slice (some ⟨w.heap.size, 0, none⟩) 1 1)).run Try.prog (w.alloc (.cells #[.int .u8 k] 5)) = .ok (.string ⟨#[UInt8.ofNat k.toNat]⟩) (w.alloc (.cells #[.int .u8 k] 5)) := by
      rw [show Value.int .u8 k = .int .u8 ((UInt8.ofNat k.toNat).toNat : Int) by rw [← hy]]
      exact run_string_rds (L := [UInt8.ofNat k.toNat]) Try.underlying54 Try.underlying5 Try.underlying26 (Rds.one w _ _) 1
    have h12b : ((s.size : Int) == 12) = false := by simp; omega
    have h15 : k ≤ 15 := by omega
    have hs1 : (⟨#[UInt8.ofNat k.toNat]⟩ : ByteArray).size = 1 := rfl
    have Hy := Lib.hid hy
    clear hkd hy
    go_enter Try.func33, Try.ntmps33
    go_wp2_with (go_at_call 50; refine (refValid_any s _ hs).mono ?_; rintro e w9 ⟨rfl, rfl⟩; rw [hv])
    go_ret2
    exact ⟨by rw [Hkd.out]; rfl, (Chg.refl _ _).alloc _⟩
  · have Hkd := Lib.hid (kid_no hall)
    have hparts : vid s = false ∨ (vid s = true ∧ k < 0) ∨ (vid s = true ∧ 0 ≤ k ∧ 15 < k) ∨ (vid s = true ∧ 0 ≤ k ∧ k ≤ 15 ∧ s.size = 12) := by
      cases hv : vid s with
      | false => exact .inl rfl
      | true =>
        have := vid_small hv
        simp only [hv, true_and] at hall
        simp only [true_and]
        omega
    clear hall
    rcases hparts with hv | ⟨hv, h0⟩ | ⟨hv, h0, h16⟩ | ⟨hv, h0, h16, h12⟩
    · go_enter Try.func33, Try.ntmps33
      go_wp2_with (go_at_call 50; refine (refValid_any s _ hs).mono ?_; rintro e w9 ⟨rfl, rfl⟩; rw [hv])
      go_ret2
      exact ⟨by rw [Hkd.out]; rfl, Chg.refl _ _⟩
    · go_enter Try.func33, Try.ntmps33
      go_wp2_with (go_at_call 50; refine (refValid_any s _ hs).mono ?_; rintro e w9 ⟨rfl, rfl⟩; rw [hv])
      go_ret2
      exact ⟨by rw [Hkd.out]; rfl, Chg.refl _ _⟩
    · go_enter Try.func33, Try.ntmps33
      go_wp2_with (go_at_call 50; refine (refValid_any s _ hs).mono ?_; rintro e w9 ⟨rfl, rfl⟩; rw [hv])
      go_ret2
      exact ⟨by rw [Hkd.out]; rfl, Chg.refl _ _⟩
    · have h12b : ((s.size : Int) == 12) = true := by simp; omega
      go_enter Try.func33, Try.ntmps33
      go_wp2_with (go_at_call 50; refine (refValid_any s _ hs).mono ?_; rintro e w9 ⟨rfl, rfl⟩; rw [hv])
      go_ret2
      exact ⟨by rw [Hkd.out]; rfl, Chg.refl _ _⟩

/-- What an evaluation gives: names rising; what a task took are tasks of its own spawns. -/
structure EvalOk (E : List Ent) : Prop where
  rise : (E.map (·.id)).Pairwise ltS
  kids : ∀ x ∈ E, ∀ k ∈ x.aw, (kid x.id k).2 = true ∧ ∃ y ∈ E, y.id = (kid x.id k).1
def cmOf (x : Ent) : Cm := (x.id, x.err, x.val)
def deepL (E : List Ent) : List Cm := E.reverse.map cmOf
theorem deepL_len (E : List Ent) : (deepL E).length = E.length := by simp [deepL]
theorem deepL_ids (E : List Ent) : ids (deepL E) = (E.map (·.id)).reverse := by
  unfold ids deepL
  rw [List.map_map, ← List.map_reverse]
  rfl
theorem lt_more : ∀ (a : List UInt8) (b : UInt8), a < a ++ [b]
  | [], b => List.Lex.nil
  | x :: a, b => List.Lex.cons (lt_more a b)
theorem kid_is {s : ByteArray} {k : Int} (h : (kid s k).2 = true) : bl (kid s k).1 = bl s ++ [UInt8.ofNat k.toNat] ∧ vid s = true ∧ s.size < 12 ∧ 0 ≤ k ∧ k < 16 := by
  unfold kid at h ⊢
  by_cases hc : vid s ∧ s.size < 12 ∧ 0 ≤ k ∧ k < 16
  · rw [if_pos hc]
    refine ⟨?_, hc⟩
    show (s ++ ⟨#[UInt8.ofNat k.toNat]⟩ : ByteArray).data.toList = s.data.toList ++ [UInt8.ofNat k.toNat]
    rw [ByteArray.data_append, Array.toList_append]
  · rw [if_neg hc] at h
    cases h
theorem kid_above {s : ByteArray} {k : Int} (h : (kid s k).2 = true) : ltS s (kid s k).1 := by
  show bl s < bl (kid s k).1
  rw [(kid_is h).1]
  exact lt_more _ _
theorem oneOf_in {E : List Ent} (hn : (E.map (·.id)).Pairwise ltS) {x : Ent} (hx : x ∈ E) : oneOf E x.id = some x := by
  induction E with
  | nil => cases hx
  | cons y E ih =>
    rw [List.map_cons, List.pairwise_cons] at hn
    unfold oneOf
    rw [List.find?_cons]
    rcases List.mem_cons.1 hx with rfl | hx
    · simp
    · have hne : y.id ≠ x.id := ltS_ne (hn.1 _ (List.mem_map_of_mem hx))
      simp only [hne, decide_false]
      exact ih hn.2 hx
theorem deep_fine {E : List Ent} (h : EvalOk E) {A B : List Ent} {x : Ent} (hE : E = A ++ x :: B) : fine E (ids (B.reverse.map cmOf)) (cmOf x) = true := by
  have hx : x ∈ E := by rw [hE]; simp
  have hr := h.rise
  have hone := oneOf_in h.rise hx
  unfold fine
  show (match oneOf E x.id with | none => false | some y => decide (y.err = x.err) && decide (y.val = x.val) && !inB _ x.id && goes y _) = true
  rw [hone]
  dsimp only
  have hids : ∀ z, inB (ids (B.reverse.map cmOf)) z = true ↔ z ∈ B.map (·.id) := fun z => by
    rw [inB_true]
    unfold ids
    rw [List.map_map]
    simp only [List.mem_map, List.mem_reverse]
    rfl
  have hno : inB (ids (B.reverse.map cmOf)) x.id = false := by
    rw [← Bool.not_eq_true, hids]
    intro hm
    rw [hE, List.map_append, List.map_cons] at hr
    have h2 := (List.pairwise_append.1 hr).2.1
    rw [List.pairwise_cons] at h2
    exact ltS_irrefl _ (h2.1 _ hm)
  have hgo : goes x (ids (B.reverse.map cmOf)) = true := by
    unfold goes
    rw [List.all_eq_true]
    intro k hk
    obtain ⟨h1, y, hy, hy2⟩ := h.kids x hx k hk
    rw [Bool.and_eq_true]
    refine ⟨h1, (hids _).2 ?_⟩
    have hlt := kid_above h1
    rw [← hy2] at hlt ⊢
    rw [hE] at hy hr
    rw [List.map_append, List.map_cons] at hr
    rcases List.mem_append.1 hy with hy | hy
    · have h3 := (List.pairwise_append.1 hr).2.2 y.id (List.mem_map_of_mem hy) x.id (List.mem_cons_self ..)
      exact absurd hlt (ltS_asym h3)
    · rcases List.mem_cons.1 hy with rfl | hy
      · exact absurd hlt (ltS_irrefl _)
      · exact List.mem_map_of_mem hy
  rw [hno, hgo]
  simp
theorem deep_good {E : List Ent} (h : EvalOk E) : chkP E (deepL E) = (0, true) := by
  refine chk_none fun j hj => ?_
  rw [deepL_len] at hj
  have hi : E.length - 1 - j < E.length := by omega
  have hE : E = E.take (E.length - 1 - j) ++ E[E.length - 1 - j] :: E.drop (E.length - 1 - j + 1) := by
    rw [← List.drop_eq_getElem_cons hi, List.take_append_drop]
  generalize hA : E.take (E.length - 1 - j) = A at hE
  generalize hx : E[E.length - 1 - j] = x at hE
  generalize hB : E.drop (E.length - 1 - j + 1) = B at hE
  have hBl : B.length = j := by rw [← hB, List.length_drop]; omega
  have hl : deepL E = B.reverse.map cmOf ++ cmOf x :: A.reverse.map cmOf := by
    unfold deepL
    rw [hE]
    simp
  have hget : (deepL E)[j]? = some (cmOf x) := by
    rw [hl, List.getElem?_append_right (by simp [hBl])]
    simp [hBl]
  have htake : (deepL E).take j = B.reverse.map cmOf := by
    rw [hl, List.take_append_of_le_length (by simp [hBl])]
    exact List.take_of_length_le (by simp [hBl])
  rw [fineAt_of hget, htake]
  exact deep_fine h hE
theorem deep_left (E : List Ent) : leftOf E (deepL E) = [] := by
  unfold leftOf
  rw [List.map_eq_nil_iff, List.filter_eq_nil_iff]
  intro x hx
  have : inB (ids (deepL E)) x.id = true := by
    rw [inB_true, deepL_ids, List.mem_reverse]
    exact List.mem_map_of_mem hx
  rw [this]
  simp
/-- Two turned around. -/
def swapL {α : Type} (l : List α) (p q : Nat) (x y : α) : List α := (l.set p y).set q x
theorem swap_perm {α : Type} [DecidableEq α] {l : List α} {p q : Nat} {x y : α} (hp : l[p]? = some x) (hq : l[q]? = some y) : l.Perm (swapL l p q x y) := by
  unfold swapL
  obtain ⟨hpl, hpx⟩ := List.getElem?_eq_some_iff.1 hp
  obtain ⟨hql, hqy⟩ := List.getElem?_eq_some_iff.1 hq
  by_cases h : p = q
  · subst h
    have e : x = y := by rw [← hpx, ← hqy]
    subst e
    rw [List.set_set]
    have : l.set p x = l := by
      conv => rhs; rw [← List.set_getElem_self hpl]
      rw [hpx]
    rw [this]
  · rw [List.perm_iff_count]
    intro a
    have hq2 : q < (l.set p y).length := by rw [List.length_set]; exact hql
    rw [List.count_set hq2, List.count_set hpl, List.getElem_set_ne (fun e => h e), hpx, hqy]
    have c1 : (x == a) = true → 0 < l.count a := fun e => by
      rw [beq_iff_eq] at e
      rw [List.count_pos_iff, ← e, ← hpx]
      exact List.getElem_mem _
    have c2 : (y == a) = true → 0 < l.count a := fun e => by
      rw [beq_iff_eq] at e
      rw [List.count_pos_iff, ← e, ← hqy]
      exact List.getElem_mem _
    by_cases e1 : (x == a) = true
    · have := c1 e1
      by_cases e2 : (y == a) = true
      · simp only [e1, e2, if_true]
        omega
      · simp only [e1, e2, if_true]
        simp only [Bool.false_eq_true, if_false]
        omega
    · by_cases e2 : (y == a) = true
      · have := c2 e2
        simp only [e1, e2, if_true]
        simp only [Bool.false_eq_true, if_false]
        omega
      · simp only [e1, e2]
        simp

/-- x lies at or under the name a. -/
def Under (a x : ByteArray) : Prop := ∃ t, bl x = bl a ++ t
theorem Under.refl (a : ByteArray) : Under a a := ⟨[], by simp⟩
theorem Under.trans {a b c : ByteArray} (h : Under a b) (k : Under b c) : Under a c := by
  obtain ⟨t, ht⟩ := h
  obtain ⟨u, hu⟩ := k
  exact ⟨t ++ u, by rw [hu, ht, List.append_assoc]⟩
theorem under_kid {a : ByteArray} {k : Int} (h : (kid a k).2 = true) : Under a (kid a k).1 := ⟨_, (kid_is h).1⟩
/-- Names under different kids differ; a kid's are not the parent's. -/
theorem kid_apart {a x : ByteArray} {k m : Int} (hk : (kid a k).2 = true) (hm : (kid a m).2 = true) (hne : k ≠ m) (h1 : Under (kid a k).1 x) (h2 : Under (kid a m).1 x) : False := by
  obtain ⟨t, ht⟩ := h1
  obtain ⟨u, hu⟩ := h2
  have e1 := (kid_is hk)
  have e2 := (kid_is hm)
  rw [e1.1] at ht
  rw [e2.1, ht, List.append_assoc, List.append_assoc] at hu
  have h3 := List.append_cancel_left hu
  simp only [List.singleton_append, List.cons.injEq] at h3
  have h4 := congrArg UInt8.toNat h3.1
  rw [UInt8.toNat_ofNat', UInt8.toNat_ofNat'] at h4
  obtain ⟨_, _, _, a1, a2⟩ := e1
  obtain ⟨_, _, _, b1, b2⟩ := e2
  omega
theorem kid_not {a : ByteArray} {k : Int} (hk : (kid a k).2 = true) : ¬ Under (kid a k).1 a := by
  rintro ⟨t, ht⟩
  rw [(kid_is hk).1] at ht
  have := congrArg List.length ht
  simp at this
/-- What a task and all that it spawned add: names under its own, each once; what they await is there. -/
structure Sub (id : ByteArray) (N : List Ent) : Prop where
  under : ∀ x ∈ N, Under id x.id
  once : (N.map (·.id)).Nodup
  aw : ∀ x ∈ N, ∀ k ∈ x.aw, (kid x.id k).2 = true ∧ ∃ y ∈ N, y.id = (kid x.id k).1
/-- A task under way: its entry, what its first k kids added. -/
structure Lp (id : ByteArray) (k : Nat) (x0 : Ent) (N : List Ent) : Prop where
  id0 : x0.id = id
  under : ∀ x ∈ N, ∃ m : Nat, m < k ∧ (kid id m).2 = true ∧ Under (kid id m).1 x.id
  once : (N.map (·.id)).Nodup
  aw : ∀ x ∈ N, ∀ i ∈ x.aw, (kid x.id i).2 = true ∧ ∃ y ∈ N, y.id = (kid x.id i).1
  aw0 : ∀ i ∈ x0.aw, (kid id i).2 = true ∧ ∃ y ∈ N, y.id = (kid id i).1
theorem Lp.sub {id : ByteArray} {k : Nat} {x0 : Ent} {N : List Ent} (h : Lp id k x0 N) : Sub id (x0 :: N) := by
  refine ⟨fun x hx => ?_, ?_, fun x hx i hi => ?_⟩
  · rcases List.mem_cons.1 hx with rfl | hx
    · rw [h.id0]; exact Under.refl _
    · obtain ⟨m, _, h2, h3⟩ := h.under x hx
      exact (under_kid h2).trans h3
  · rw [List.map_cons, List.nodup_cons]
    refine ⟨fun hm => ?_, h.once⟩
    obtain ⟨x, hx, e⟩ := List.mem_map.1 hm
    obtain ⟨m, _, h2, h3⟩ := h.under x hx
    rw [e, h.id0] at h3
    exact kid_not h2 h3
  · rcases List.mem_cons.1 hx with rfl | hx
    · have := h.aw0 i hi
      rw [h.id0]
      exact ⟨this.1, let ⟨y, h1, h2⟩ := this.2; ⟨y, List.mem_cons_of_mem _ h1, h2⟩⟩
    · have := h.aw x hx i hi
      exact ⟨this.1, let ⟨y, h1, h2⟩ := this.2; ⟨y, List.mem_cons_of_mem _ h1, h2⟩⟩
/-- One more kid. -/
theorem Lp.add {id : ByteArray} {k : Nat} {x0 : Ent} {N M : List Ent} (h : Lp id k x0 N) (hk : (kid id k).2 = true) (hM : Sub (kid id k).1 M) : Lp id (k + 1) x0 (N ++ M) := by
  refine ⟨h.id0, fun x hx => ?_, ?_, fun x hx i hi => ?_, fun i hi => ?_⟩
  · rcases List.mem_append.1 hx with hx | hx
    · obtain ⟨m, h1, h2, h3⟩ := h.under x hx
      exact ⟨m, by omega, h2, h3⟩
    · exact ⟨k, by omega, hk, hM.under x hx⟩
  · rw [List.map_append, List.nodup_append]
    refine ⟨h.once, hM.once, fun a ha b hb e => ?_⟩
    obtain ⟨x, hx, rfl⟩ := List.mem_map.1 ha
    obtain ⟨y, hy, rfl⟩ := List.mem_map.1 hb
    obtain ⟨m, h1, h2, h3⟩ := h.under x hx
    rw [e] at h3
    exact kid_apart h2 hk (by omega) h3 (hM.under y hy)
  · rcases List.mem_append.1 hx with hx | hx
    · have := h.aw x hx i hi
      exact ⟨this.1, let ⟨y, h1, h2⟩ := this.2; ⟨y, List.mem_append_left _ h1, h2⟩⟩
    · have := hM.aw x hx i hi
      exact ⟨this.1, let ⟨y, h1, h2⟩ := this.2; ⟨y, List.mem_append_right _ h1, h2⟩⟩
  · have := h.aw0 i hi
    exact ⟨this.1, let ⟨y, h1, h2⟩ := this.2; ⟨y, List.mem_append_left _ h1, h2⟩⟩

/-- What Begin answers. -/
def BgPost (w : World) (e : Ending) (w2 : World) : Prop :=
  ∃ s x, e = .returned (.tuple #[.agg (stC s), .int .i64 x]) ∧ StAt w2 s ∧ s.k = 0 ∧ s.wt = false ∧ s.u = 0 ∧ (∀ b, RowB s.sA b → w.heap.size ≤ b) ∧ (∀ b, RowB s.lA b → w.heap.size ≤ b) ∧ Chg Non w w2
theorem BgPost.no {w w2 : World} (hc : Chg Non w w2) (x : Int) : BgPost w (.returned (.tuple #[.agg #[.int .i64 0, .int .i64 0, .int .i64 0, .slice none 0 0, .slice none 0 0, .int .i64 0, .bool false], .int .i64 x])) w2 :=
  ⟨st0, x, rfl, ⟨Rds.nil_, Rds.nil_, Nat.zero_le _, Nat.zero_le _⟩, rfl, rfl, rfl, (fun b hb => by obtain ⟨_, e, _⟩ := hb; cases e), (fun b hb => by obtain ⟨_, e, _⟩ := hb; cases e), hc⟩
/-- Between two rounds: m zeros are still to be laid. -/
def RelB (w : World) (sb : Nat) (f : Int) (lim : Nat) (m : Nat) (wx : World) : Prop :=
  ∃ n A c L, Blk wx sb 95 #[.int .i64 f, .int .i64 0, .int .i64 0, .slice none 0 0, .slice A n c, .int .i64 0, .bool false] ∧ OwnR rkN wx (w.heap.size + 1) (.slice A n c) n (iv L) ∧ n + m = lim ∧ Blk wx w.heap.size 95 (stC st0) ∧ Chg Non w wx
set_option maxRecDepth 100000 in
set_option maxHeartbeats 16000000 in
theorem refBegin_any (w : World) (b : Nat) (j : Jb) (dA : Option Addr) (dc : Nat) (R : List DRow) (hk : KnAt w b j dA dc R) (fi : Int) (A : Option Addr) (n c : Nat) (L : List Int) (ha : Rds w 1 A n (iv L)) (hn : n ≤ 1000) :
    Calls Try.prog 47 #[.pointer (some ⟨b, 0, none⟩), .int .i64 fi, .slice A n c] w (BgPost w) := by
  obtain ⟨w1, hw1⟩ : ∃ w1, w.alloc (.cells #[.int .i64 0, .int .i64 0, .int .i64 0, .slice none 0 0, .slice none 0 0, .int .i64 0, .bool false] 95) = w1 := ⟨_, rfl⟩
  have hc1 : Chg Non w w1 := hw1 ▸ (Chg.refl _ _).alloc _
  have hb1 : Blk w1 w.heap.size 95 (stC st0) := hw1 ▸ Blk.new w _ _
  have hk1 := hk.non hc1
  have HK0 := Lib.hid hk
  have Hc1 := Lib.hid hc1
  have Hb1 := Lib.hid hb1
  have cl := hb1.lt
  have kl := hk1.blk.lt
  have hz1 : w1.heap.size = w.heap.size + 1 := by rw [← hw1]; simp
  have y0 : w1.cell? ⟨b, 0, none⟩ = some (.slice j.fA j.fn j.fc) := hk1.blk.cell 0
  obtain ⟨t0, t1, t2, t3, t4, t5, t6⟩ := cell7 hb1
  obtain ⟨z0, z1, z2, z3, z4, z5, z6⟩ : w1.frozen? ⟨w.heap.size, 0, none⟩ = false ∧ w1.frozen? ⟨w.heap.size, 1, none⟩ = false ∧ w1.frozen? ⟨w.heap.size, 2, none⟩ = false ∧ w1.frozen? ⟨w.heap.size, 3, none⟩ = false ∧ w1.frozen? ⟨w.heap.size, 4, none⟩ = false ∧ w1.frozen? ⟨w.heap.size, 5, none⟩ = false ∧ w1.frozen? ⟨w.heap.size, 6, none⟩ = false := ⟨hb1.frozen 0, hb1.frozen 1, hb1.frozen 2, hb1.frozen 3, hb1.frozen 4, hb1.frozen 5, hb1.frozen 6⟩
  clear hc1 hb1 hk1 hk
  obtain ⟨w6, hw6⟩ : ∃ w6, set7 w1 w.heap.size (.int .i64 0) (.int .i64 0) (.int .i64 0) (.slice none 0 0) (.slice none 0 0) (.int .i64 0) (.bool false) = w6 := ⟨_, rfl⟩
  have hC6 : Chg (fun b => b = w.heap.size) w1 w6 := hw6 ▸ set7_chg _ _ _ _ _ _ _ _ _
  have hB6 := set7_blk (show Blk w1 w.heap.size 95 #[.int .i64 0, .int .i64 0, .int .i64 0, .slice none 0 0, .slice none 0 0, .int .i64 0, .bool false] from Hb1.out) (.int .i64 0) (.int .i64 0) (.int .i64 0) (.slice none 0 0) (.slice none 0 0) (.int .i64 0) (.bool false)
  rw [hw6] at hB6
  obtain ⟨s0, s1, s2, s3, s4, s5, s6⟩ := cell7 hB6
  have Hbad : Hid (∀ (x : Int), BgPost w (.returned (.tuple #[.agg #[.int .i64 0, .int .i64 0, .int .i64 0, .slice none 0 0, .slice none 0 0, .int .i64 0, .bool false], .int .i64 x])) w6) :=
    fun x => BgPost.no (Hc1.out.trans2 hC6 (fun b e => .inr (Nat.le_of_eq e.symm))) x
  have Hw6 := Lib.hid hw6
  clear hw6 hC6 hB6
  by_cases hf : fi < 0 ∨ (0 ≤ fi ∧ (j.fn : Int) ≤ fi)
  · rcases hf with hf | ⟨hf, hf2⟩
    all_goals
      go_enter Try.func47, Try.ntmps47
      go_wp2_with fail
      rw [set7_name, Hw6.out]
      exact bodyPost_ret (v := .tuple #[.agg #[.int .i64 0, .int .i64 0, .int .i64 0, .slice none 0 0, .slice none 0 0, .int .i64 0, .bool false], .int .i64 14]) (by simp [results, Try.results47, go_sem, s0, s1, s2, s3, s4, s5, s6]) rfl (Hbad.out 14)
  have hf0 : 0 ≤ fi := by omega
  have hf1 : fi < j.fn := by omega
  clear hf
  obtain ⟨q, rfl⟩ : ∃ q : Nat, fi = q := ⟨fi.toNat, by omega⟩
  have hql : q < j.fn := by omega
  obtain ⟨fad, dad, f, r, hK⟩ := HK0.out.get hql
  have HK := Lib.hid hK
  rw [hK.fA] at y0
  have D1 : decide ((q : Int) < 0) = false := decide_eq_false (by omega)
  have D2 : decide (j.fn ≤ q) = false := decide_eq_false (by omega)
  have k1 := Hc1.out.cell hK.c1 id
  have kz : (fad.add (q * 4)).block < w1.heap.size := World.block_lt_of_cell? w1 _ (Hc1.out.cell hK.c0 id)
  clear hf0 hf1 hK
  by_cases hna : (n : Int) = f.args
  · have hn2 : ((n : Int) != f.args) = false := by rw [hna]; exact bne_self_eq_false _
    have hn3 : ((n : Int) == f.args) = true := by rw [hna]; exact beq_self_eq_true _
    have Hna := Lib.hid hna
    have Hlim : Hid (f.args ≤ f.locs ∧ f.locs ≤ 16) := HK.out.ok.locs
    have hone := iv_one L
    have hr1 := ha.non Hc1.out
    clear hna s0 s1 s2 s3 s4 s5 s6 Hbad
    go_enter Try.func47, Try.ntmps47
    go_wp2_with (at_builtin; refine appRn (K := rkN) rfl (.tmp 36) rfl hr1 rfl hone ?_ ?_; (next => omega); intro A2 c2 w2 o2 d2)
    obtain ⟨sb, hsb⟩ : ∃ sb, w2.heap.size = sb := ⟨_, rfl⟩
    obtain ⟨lim, hlim⟩ : ∃ lim : Nat, f.locs = lim := ⟨f.locs.toNat, by have := Hlim.out; have := Hna.out; omega⟩
    have hl16 : lim ≤ 16 := by have := Hlim.out; omega
    have Hsb : Hid (w.heap.size < sb) := by show _ < _; have := d2.size; omega
    have hR0 : RelB w sb q lim (lim - n) (w2.alloc (.cells #[.int .i64 q, .int .i64 0, .int .i64 0, .slice none 0 0, .slice A2 n c2, .int .i64 0, .bool false] 95)) :=
      ⟨n, A2, c2, L, hsb ▸ Blk.new w2 _ _, ((o2.mono (by omega)).alloc _), by have := Hlim.out; have := Hna.out; omega, (Hb1.out.non d2).alloc _, (Hc1.out.non d2).alloc _⟩
    have HR0 := Lib.hid hR0
    have k2 := HK.out.c2
    rw [hlim] at k2
    have K2 := Lib.hid k2
    clear hR0 o2 d2 hr1 k2 t0 t1 t2 t3 t4 t5 t6 z0 z1 z2 z3 z4 z5 z6 hlim y0 k1 kz cl kl
    rw [hsb]
    clear hsb
    go_loopw [] (fun wr => ∃ m, RelB w sb q lim m wr) (fun wr => leastN (fun m => RelB w sb q lim m wr))
    case atStart => exact ⟨_, HR0.out⟩
    case round =>
      clear HR0
      have hsp := leastN_spec hrel
      obtain ⟨m, hm⟩ : ∃ m, leastN (fun m => RelB w sb q lim m wr) = m := ⟨_, rfl⟩
      rw [hm] at hsp
      have Hm := Lib.hid hm
      clear hrel hm
      obtain ⟨n3, A3, c3, L3, hB, hO, hnm, hr3, hC⟩ := hsp
      have hkw := HK0.out.non hC
      have kl := hkw.blk.lt
      have bl := hB.lt
      have y0 : wr.cell? ⟨b, 0, none⟩ = some (.slice (some fad) j.fn j.fc) := by
        have := hkw.blk.cell 0
        rw [show (knC j dA j.fn dc)[0]? = some (.slice j.fA j.fn j.fc) from rfl, HK.out.fA] at this
        exact this
      have k2 := hC.cell K2.out id
      have kz : (fad.add (q * 4)).block < wr.heap.size := World.block_lt_of_cell? wr _ (hC.cell HK.out.c0 id)
      have x4 : wr.cell? ⟨sb, 4, none⟩ = some (.slice A3 n3 c3) := hB.cell 4
      have HB := Lib.hid hB
      have HO := Lib.hid hO
      have Hr3 := Lib.hid hr3
      have HC := Lib.hid hC
      clear hkw hB hO hr3 hC
      by_cases hlt : n3 < lim
      · go_wp2_with fail
        go_quiet (fail)
        obtain ⟨w5, hw5⟩ : ∃ w5, wr.drewN nq = w5 := ⟨_, rfl⟩
        rw [hw5]
        have hd5 : Chg Non wr w5 := hw5 ▸ (Chg.refl _ _).drewN nq
        have hB5 := HB.out.non hd5
        have hO5 := HO.out.non hd5
        have hr5 := Hr3.out.non hd5
        have hC5 := HC.out.non hd5
        have bl5 := hB5.lt
        have x5 : w5.cell? ⟨sb, 4, none⟩ = some (.slice A3 n3 c3) := hB5.cell 4
        have hone5 : ∀ u ∈ (#[.int .i64 0] : Array Value).toList, u.oneCell' = true := iv_one [0]
        have hs5 : w.heap.size + 1 ≤ w5.heap.size := by have := Hsb.out; omega
        have hap := hO5.apart hB5 (by decide)
        clear x4 y0 k2 kz hw5
        go_wp2_with (at_builtin; refine appR1s (K := rkN) rfl (.tmp 53) (.tmp 54) rfl hO5 rfl (cs := #[.int .i64 0]) rfl rfl hone5 ?_ ?_ ?_; (next => omega); (next => exact hs5); intro A7 c7 w7 o7 d7 hv7; have hb7 := hB5.chg d7 hap; have kl7 := hb7.lt; have kf7 := hb7.frozen 4; have kc7 : w7.cell? ⟨sb, 4, none⟩ = some (.slice A3 n3 c3) := hb7.cell 4)
        have hS8 : Chg (fun b => b = sb) w7 (w7.setCell ⟨sb, 4, none⟩ (.slice A7 (n3 + 1) c7)) := (Chg.refl _ _).set1 4 _
        have hb8 := hb7.put 4 (.slice A7 (n3 + 1) c7)
        simp only [List.setIfInBounds_toArray, List.set_cons_succ, List.set_cons_zero] at hb8
        have Hrel2 : Hid (RelB w sb q lim (m - 1) (w7.setCell ⟨sb, 4, none⟩ (.slice A7 (n3 + 1) c7))) := by
          refine ⟨n3 + 1, A7, c7, L3 ++ [0], hb8, ?_, by omega, (hr5.chg d7 (fun e => by have := (hO5.lt e).1; omega)).chg hS8 (fun e => by have := Hsb.out; have e : w.heap.size = sb := e; omega), (hC5.trans2 d7 (fun b e => .inr (by have := (hO5.lt e).1; omega))).trans2 hS8 (fun b e => .inr (by have := Hsb.out; have e : b = sb := e; omega))⟩
          rw [iv_app]
          exact o7.chg hS8 (fun g hg e => o7.apart hb7 (by decide) (by rw [← show g = sb from e]; exact hg))
        have Hms : Hid (m - 1 < m) := by show _ < _; omega
        clear hS8 hb8 hb7 kl7 kf7 kc7 o7 d7 hv7
        go_roundw
        case rel => exact ⟨_, Hrel2.out⟩
        case measure => rw [Hm.out]; have := leastN_le (p := fun m => RelB w sb q lim m (w7.setCell ⟨sb, 4, none⟩ (.slice A7 (n3 + 1) c7))) Hrel2.out; have := Hms.out; omega
      · go_wp2_with fail
        go_quiet (fail)
        obtain ⟨w5, hw5⟩ : ∃ w5, wr.drewN nq = w5 := ⟨_, rfl⟩
        rw [hw5]
        have hd5 : Chg Non wr w5 := hw5 ▸ (Chg.refl _ _).drewN nq
        have hB5 := HB.out.non hd5
        have hO5 := HO.out.non hd5
        have hr5 := Hr3.out.non hd5
        have hC5 := HC.out.non hd5
        have bl5 := hB5.lt
        have rl5 := hr5.lt
        obtain ⟨s0, s1, s2, s3, s4, s5, s6⟩ := cell7 hB5
        obtain ⟨r0, r1, r2, r3, r4, r5, r6⟩ := cell7 (show Blk w5 w.heap.size 95 #[.int .i64 0, .int .i64 0, .int .i64 0, .slice none 0 0, .slice none 0 0, .int .i64 0, .bool false] from hr5)
        obtain ⟨z0, z1, z2, z3, z4, z5, z6⟩ : w5.frozen? ⟨w.heap.size, 0, none⟩ = false ∧ w5.frozen? ⟨w.heap.size, 1, none⟩ = false ∧ w5.frozen? ⟨w.heap.size, 2, none⟩ = false ∧ w5.frozen? ⟨w.heap.size, 3, none⟩ = false ∧ w5.frozen? ⟨w.heap.size, 4, none⟩ = false ∧ w5.frozen? ⟨w.heap.size, 5, none⟩ = false ∧ w5.frozen? ⟨w.heap.size, 6, none⟩ = false := ⟨hr5.frozen 0, hr5.frozen 1, hr5.frozen 2, hr5.frozen 3, hr5.frozen 4, hr5.frozen 5, hr5.frozen 6⟩
        obtain ⟨w8, hw8⟩ : ∃ w8, set7 w5 w.heap.size (.int .i64 q) (.int .i64 0) (.int .i64 0) (.slice none 0 0) (.slice A3 n3 c3) (.int .i64 0) (.bool false) = w8 := ⟨_, rfl⟩
        have hS8 : Chg (fun b => b = w.heap.size) w5 w8 := hw8 ▸ set7_chg _ _ _ _ _ _ _ _ _
        have hB8 := set7_blk (show Blk w5 w.heap.size 95 #[.int .i64 0, .int .i64 0, .int .i64 0, .slice none 0 0, .slice none 0 0, .int .i64 0, .bool false] from hr5) (.int .i64 q) (.int .i64 0) (.int .i64 0) (.slice none 0 0) (.slice A3 n3 c3) (.int .i64 0) (.bool false)
        rw [hw8] at hB8
        obtain ⟨v0, v1, v2, v3, v4, v5, v6⟩ := cell7 hB8
        have Hres : Hid (BgPost w (.returned (.tuple #[.agg #[.int .i64 q, .int .i64 0, .int .i64 0, .slice none 0 0, .slice A3 n3 c3, .int .i64 0, .bool false], .int .i64 0])) w8) :=
          ⟨⟨q, 0, 0, none, 0, 0, [], A3, n3, c3, L3, 0, false⟩, 0, rfl, ⟨Rds.nil_, (hO5.chg hS8 (fun g hg e => by have := (hO5.lt hg).1; have e : g = w.heap.size := e; omega)).rds, Nat.zero_le _, by show n3 ≤ 1000; omega⟩, rfl, rfl, rfl, (fun b hb => by obtain ⟨_, e, _⟩ := hb; cases e), (fun b hb => by have := (hO5.lt (rowB_own hb)).1; omega), hC5.trans2 hS8 (fun b e => .inr (Nat.le_of_eq e.symm))⟩
        have Hw8 := Lib.hid hw8
        clear hd5 hB5 hO5 hr5 hC5 hS8 hB8 hw8 hw5
        go_wp2_with fail
        rw [set7_name, Hw8.out]
        exact bodyPost_ret (v := .tuple #[.agg #[.int .i64 q, .int .i64 0, .int .i64 0, .slice none 0 0, .slice A3 n3 c3, .int .i64 0, .bool false], .int .i64 0]) (by simp [results, Try.results47, go_sem, v0, v1, v2, v3, v4, v5, v6]) rfl Hres.out
  · have hn2 : ((n : Int) != f.args) = true := bne_iff_ne.2 hna
    have hn3 : ((n : Int) == f.args) = false := beq_eq_false_iff_ne.2 hna
    clear hna
    go_enter Try.func47, Try.ntmps47
    go_wp2_with fail
    rw [set7_name, Hw6.out]
    exact bodyPost_ret (v := .tuple #[.agg #[.int .i64 0, .int .i64 0, .int .i64 0, .slice none 0 0, .slice none 0 0, .int .i64 0, .bool false], .int .i64 15]) (by simp [results, Try.results47, go_sem, s0, s1, s2, s3, s4, s5, s6]) rfl (Hbad.out 15)

abbrev rkRs : RowKind Try.prog where
  t := 98
  e := 30
  z := .agg #[.int .i64 0, .int .i64 0]
  size := 2
  bytes := 16
  ht := Try.underlying98
  info := by kernel_rfl
  hz := rfl
  hs := by decide
  hb := by decide
def cellRs (r : Int × Int) : List Value := [.int .i64 r.1, .int .i64 r.2]
def rsv (L : List (Int × Int)) : List Value := L.flatMap cellRs
theorem cellRs_len (r : Int × Int) : (cellRs r).length = 2 := rfl
theorem rsv_snoc (L : List (Int × Int)) (r : Int × Int) : rsv (L ++ [r]) = rsv L ++ cellRs r := flat_snoc _ _ _

/-- A slice that may be read, apart from the blocks M. -/
def RdF (M : Nat → Prop) (w : World) (A : Option Addr) (n : Nat) (xs : List Value) : Prop :=
  Rds w 1 A n xs ∧ (0 < n → ∀ b, RowB A b → b < w.heap.size ∧ ¬ M b)
theorem Rds.low {w : World} {A : Option Addr} {n : Nat} {xs : List Value} (h : Rds w 1 A n xs) (h0 : 0 < n) {b : Nat} (hb : RowB A b) : b < w.heap.size := by
  obtain ⟨ad, e, hc⟩ := h.2 h0
  obtain ⟨ad2, e2, rfl⟩ := hb
  rw [e] at e2
  obtain rfl := Option.some.inj e2
  have hl : 0 < xs.length := by have := h.1; omega
  have := World.block_lt_of_cell? w _ (hc 0 _ (List.getElem?_eq_getElem hl))
  rwa [block_add] at this
theorem RdF.step {M M2 : Nat → Prop} {w w2 : World} {A : Option Addr} {n : Nat} {xs : List Value} (h : RdF M w A n xs) (hc : Chg M w w2) (hM : ∀ b, M2 b → M b ∨ w.heap.size ≤ b) : RdF M2 w2 A n xs := by
  rcases Nat.eq_zero_or_pos n with h0 | h0
  · subst h0
    exact ⟨⟨h.1.1, fun h => absurd h (by omega)⟩, fun h => absurd h (by omega)⟩
  · refine ⟨h.1.chg hc (fun ad e => (h.2 h0 _ ⟨ad, e, rfl⟩).2), fun _ b hb => ?_⟩
    have := h.2 h0 b hb
    refine ⟨Nat.lt_of_lt_of_le this.1 hc.size, fun e => ?_⟩
    rcases hM b e with e | e
    · exact this.2 e
    · omega
theorem RdF.new {M : Nat → Prop} {w w2 : World} {A : Option Addr} {n : Nat} {xs : List Value} (h : Rds w2 1 A n xs) (hl : ∀ b, RowB A b → w.heap.size ≤ b) (hM : ∀ b, M b → b < w.heap.size) : RdF M w2 A n xs :=
  ⟨h, fun h0 b hb => ⟨h.low h0 hb, fun e => by have := hM b e; have := hl b hb; omega⟩⟩
theorem RdF.non {M : Nat → Prop} {w w2 : World} {A : Option Addr} {n : Nat} {xs : List Value} (h : RdF M w A n xs) (hc : Chg Non w w2) : RdF M w2 A n xs := h.step hc.of_non (fun _ e => .inl e)
/-- A block that is known, apart from the blocks M. -/
def BlkF (M : Nat → Prop) (w : World) (g : Nat) (t : TypeId) (cs : Array Value) : Prop := Blk w g t cs ∧ ¬ M g
theorem BlkF.step {M M2 : Nat → Prop} {w w2 : World} {g : Nat} {t : TypeId} {cs : Array Value} (h : BlkF M w g t cs) (hc : Chg M w w2) (hM : ∀ b, M2 b → M b ∨ w.heap.size ≤ b) : BlkF M2 w2 g t cs :=
  ⟨h.1.chg hc h.2, fun e => (hM g e).elim h.2 (fun e => by have := h.1.lt; omega)⟩
theorem BlkF.non {M : Nat → Prop} {w w2 : World} {g : Nat} {t : TypeId} {cs : Array Value} (h : BlkF M w g t cs) (hc : Chg Non w w2) : BlkF M w2 g t cs := h.step hc.of_non (fun _ e => .inl e)

/-- The object: what it knows, its entries, is it over? -/
structure AllAt (w0 : World) (kb ab : Nat) (E : List Ent) (over : Bool) (eA : Option Addr) (en ec : Nat) (wx : World) : Prop where
  kn : Chg Non w0 wx
  box : Blk wx ab 73 #[.pointer (some ⟨kb, 0, none⟩), .slice eA en ec, .bool over]
  ge : w0.heap.size ≤ ab
  own : OwnR rkE wx w0.heap.size (.slice eA en ec) en (evs E)
  ok : ∀ x ∈ E, EntOk wx x ∧ (0 < x.an → ∀ b, RowB x.aA b → b < wx.heap.size ∧ b ≠ ab ∧ ¬ RowB eA b)
theorem EntOk.an_pos {wx w2 : World} {x : Ent} (h : EntOk wx x) (h2 : 0 < x.an → Rds w2 1 x.aA x.an (iv x.aw)) : EntOk w2 x := by
  refine ⟨?_, h.2⟩
  rcases Nat.eq_zero_or_pos x.an with h0 | h0
  · exact ⟨h.1.1, fun hp => absurd hp (by omega)⟩
  · exact h2 h0
section
variable {w0 wx w2 : World} {kb ab : Nat} {E : List Ent} {over : Bool} {eA : Option Addr} {en ec : Nat}
theorem AllAt.len (h : AllAt w0 kb ab E over eA en ec wx) : en = E.length := by
  have := h.own.lenF entC_len
  exact this
theorem AllAt.chg {S : Nat → Prop} (h : AllAt w0 kb ab E over eA en ec wx) (hc : Chg S wx w2) (hS : ∀ b, S b → w0.heap.size ≤ b ∧ b ≠ ab ∧ ¬ RowB eA b) (hE : ∀ x ∈ E, 0 < x.an → ∀ b, RowB x.aA b → ¬ S b) : AllAt w0 kb ab E over eA en ec w2 :=
  ⟨h.kn.trans2 hc (fun b e => .inr (hS b e).1), h.box.chg hc (fun e => (hS _ e).2.1 rfl), h.ge, h.own.chg hc (fun g hg e => (hS g e).2.2 (own_rowB hg)), fun x hx => by
    have hk := h.ok x hx
    refine ⟨hk.1.an_pos (fun h0 => hk.1.1.chg hc (fun ad e => hE x hx h0 _ ⟨ad, e, rfl⟩)), fun h0 b hb => ?_⟩
    have := hk.2 h0 b hb
    exact ⟨Nat.lt_of_lt_of_le this.1 hc.size, this.2⟩⟩
theorem AllAt.non (h : AllAt w0 kb ab E over eA en ec wx) (hc : Chg Non wx w2) : AllAt w0 kb ab E over eA en ec w2 := h.chg hc (fun _ e => e.elim) (fun _ _ _ _ _ e => e)
/-- Is it over? That is written. -/
theorem AllAt.setOver (h : AllAt w0 kb ab E over eA en ec wx) (o2 : Bool) : AllAt w0 kb ab E o2 eA en ec (wx.setCell ⟨ab, 2, none⟩ (.bool o2)) ∧ Chg (fun b => b = ab) wx (wx.setCell ⟨ab, 2, none⟩ (.bool o2)) := by
  have hc : Chg (fun b => b = ab) wx (wx.setCell ⟨ab, 2, none⟩ (.bool o2)) := (Chg.refl _ _).set1 _ _
  have hb := h.box.put 2 (.bool o2)
  simp only [List.setIfInBounds_toArray, List.set_cons_succ, List.set_cons_zero] at hb
  refine ⟨⟨h.kn.trans2 hc (fun b e => .inr (by have := h.ge; have e : b = ab := e; omega)), hb, h.ge, h.own.chg hc (fun g hg e => h.own.apart h.box (by decide) (by rw [← show g = ab from e]; exact hg)), fun x hx => ?_⟩, hc⟩
  have hk := h.ok x hx
  refine ⟨hk.1.an_pos (fun h0 => hk.1.1.chg hc (fun ad e e2 => (hk.2 h0 _ ⟨ad, e, rfl⟩).2.1 e2)), fun h0 b hb => ?_⟩
  have := hk.2 h0 b hb
  exact ⟨Nat.lt_of_lt_of_le this.1 hc.size, this.2⟩
theorem set_mem {α : Type} {L : List α} {p : Nat} {x y z : α} (hz : z ∈ L.set p y) (hp : L[p]? = some x) : z = y ∨ z ∈ L := by
  rcases List.mem_or_eq_of_mem_set hz with h | h
  · exact .inr h
  · exact .inl h
/-- A cell of an entry is written (not what it awaits). -/
theorem AllAt.cell {g : Nat} (h : AllAt w0 kb ab E over (some ⟨g, 0, none⟩) en ec wx) {p : Nat} {x y : Ent} (hx : E[p]? = some x) {j : Nat} {u : Value} (hj : j < 8) (hy : entC y = (entC x).set j u) (he : EntOk wx x → EntOk wx y) (hA : y.aA = x.aA) (hn : y.an = x.an) :
    AllAt w0 kb ab (E.set p y) over (some ⟨g, 0, none⟩) en ec (wx.setCell ⟨g, p * 8 + j, none⟩ u) ∧ Chg (RowB (some (⟨g, 0, none⟩ : Addr))) wx (wx.setCell ⟨g, p * 8 + j, none⟩ u) := by
  have hc : Chg (fun b => b = g) wx (wx.setCell ⟨g, p * 8 + j, none⟩ u) := (Chg.refl _ _).set1 _ _
  have hg : w0.heap.size ≤ g := (h.own.lt (g := g) rfl).1
  refine ⟨⟨h.kn.trans2 hc (fun b e => .inr (by have e : b = g := e; omega)), h.box.chg hc (fun e => h.own.apart h.box (by decide) (by rw [show ab = g from e]; rfl)), h.ge, OwnR.putN (K := rkE) entC_len h.own y hx hj hy, fun z hz => ?_⟩, hc.mono (fun b e => ⟨_, rfl, by have e : b = g := e; exact e.symm⟩)⟩
  have key : ∀ z, EntOk wx z ∧ (0 < z.an → ∀ b, RowB z.aA b → b < wx.heap.size ∧ b ≠ ab ∧ ¬ RowB (some (⟨g, 0, none⟩ : Addr)) b) → EntOk (wx.setCell ⟨g, p * 8 + j, none⟩ u) z ∧ (0 < z.an → ∀ b, RowB z.aA b → b < (wx.setCell ⟨g, p * 8 + j, none⟩ u).heap.size ∧ b ≠ ab ∧ ¬ RowB (some (⟨g, 0, none⟩ : Addr)) b) := fun z hk => by
    refine ⟨hk.1.an_pos (fun h0 => hk.1.1.chg hc (fun ad e e2 => (hk.2 h0 _ ⟨ad, e, rfl⟩).2.2 ⟨_, rfl, by have e2 : ad.block = g := e2; exact e2.symm⟩)), fun h0 b hb => ?_⟩
    have := hk.2 h0 b hb
    exact ⟨Nat.lt_of_lt_of_le this.1 hc.size, this.2⟩
  rcases set_mem hz hx with rfl | hz
  · have hk := h.ok x (List.mem_of_getElem? hx)
    exact key _ ⟨he hk.1, fun h0 b hb => by rw [hA] at hb; rw [hn] at h0; exact hk.2 h0 b hb⟩
  · exact key _ (h.ok z hz)
end

/-! A task under way. -/
def Mine (ab sb : Nat) (eA aA kA : Option Addr) (b : Nat) : Prop := b = ab ∨ b = sb ∨ RowB eA b ∨ RowB aA b ∨ RowB kA b
structure LpS (w0 : World) (kb ab : Nat) (w : World) (id : ByteArray) (E : List Ent) (eA0 : Option Addr) (sb : Nat) (cs : Array Value) (k : Nat) (x0 : Ent) (N : List Ent) (over : Bool) (eA : Option Addr) (en ec : Nat) (kA : Option Addr) (kn kc : Nat) (kr : List (Int × Int)) (wx : World) : Prop where
  all : AllAt w0 kb ab (E ++ x0 :: N) over eA en ec wx
  aw : OwnR rkN wx w.heap.size (.slice x0.aA x0.an x0.ac) x0.an (iv x0.aw)
  kd : OwnR rkRs wx w.heap.size (.slice kA kn kc) kn (rsv kr)
  sbx : Blk wx sb 95 cs
  sbg : w.heap.size ≤ sb
  abl : ab < w.heap.size
  bas : w0.heap.size ≤ w.heap.size
  awF : ∀ x ∈ E ++ N, 0 < x.an → ∀ b, RowB x.aA b → b ≠ sb ∧ b ≠ w.heap.size ∧ ¬ RowB x0.aA b ∧ ¬ RowB kA b
  lp : Lp id k x0 N
  here : over = false → ∀ m : Nat, m < k → (kid id m).2 = true ∧ ∃ y ∈ N, y.id = (kid id m).1
  chg : Chg (fun b => b = ab ∨ RowB eA0 b) w wx
  new : ∀ x ∈ x0 :: N, 0 < x.an → ∀ b, RowB x.aA b → w.heap.size ≤ b
  rown : ∀ b, RowB eA b → RowB eA0 b ∨ w.heap.size ≤ b
section
variable {w0 w wx w2 : World} {kb ab : Nat} {id : ByteArray} {E : List Ent} {eA0 : Option Addr} {sb : Nat} {cs : Array Value} {k : Nat} {x0 : Ent} {N : List Ent} {over : Bool} {eA : Option Addr} {en ec : Nat} {kA : Option Addr} {kn kc : Nat} {kr : List (Int × Int)}
theorem at_get {E : List Ent} {x0 : Ent} {N : List Ent} : (E ++ x0 :: N)[E.length]? = some x0 := by
  rw [List.getElem?_append_right (Nat.le_refl _), Nat.sub_self]
  rfl
theorem at_set {E : List Ent} {x0 y : Ent} {N : List Ent} : (E ++ x0 :: N).set E.length y = E ++ y :: N := by
  rw [List.set_append_right _ _ (Nat.le_refl _), Nat.sub_self]
  rfl
theorem mem_mid {E : List Ent} {x0 x : Ent} {N : List Ent} (h : x ∈ E ++ N) : x ∈ E ++ x0 :: N := by
  rcases List.mem_append.1 h with h | h
  · exact List.mem_append_left _ h
  · exact List.mem_append_right _ (List.mem_cons_of_mem _ h)
theorem mem_mid2 {E : List Ent} {x0 x : Ent} {N : List Ent} (h : x ∈ E ++ x0 :: N) : x = x0 ∨ x ∈ E ++ N := by
  rcases List.mem_append.1 h with h | h
  · exact .inr (List.mem_append_left _ h)
  · rcases List.mem_cons.1 h with h | h
    · exact .inl h
    · exact .inr (List.mem_append_right _ h)
theorem LpS.form (h : LpS w0 kb ab w id E eA0 sb cs k x0 N over eA en ec kA kn kc kr wx) : ∃ g, eA = some ⟨g, 0, none⟩ := by
  have hn := h.all.len
  obtain ⟨g, c, e, _⟩ := h.all.own.form (by rw [hn]; simp; omega)
  injection e with e1
  exact ⟨g, e1⟩
theorem LpS.low (h : LpS w0 kb ab w id E eA0 sb cs k x0 N over eA en ec kA kn kc kr wx) : ∀ b, Mine ab sb eA x0.aA kA b → b < wx.heap.size := by
  intro b hb
  have hs := h.sbx
  rcases hb with rfl | rfl | hb | hb | hb
  · exact h.all.box.lt
  · exact hs.lt
  · exact (h.all.own.lt (rowB_own hb)).2
  · exact (h.aw.lt (rowB_own hb)).2
  · exact (h.kd.lt (rowB_own hb)).2
/-- All that may change lies behind the known job. -/
theorem LpS.far (h : LpS w0 kb ab w id E eA0 sb cs k x0 N over eA en ec kA kn kc kr wx) : ∀ b, Mine ab sb eA x0.aA kA b → w0.heap.size ≤ b := by
  intro b hb
  have := h.bas
  rcases hb with rfl | rfl | hb | hb | hb
  · exact h.all.ge
  · have := h.sbg; omega
  · exact (h.all.own.lt (rowB_own hb)).1
  · have := (h.aw.lt (rowB_own hb)).1; omega
  · have := (h.kd.lt (rowB_own hb)).1; omega
theorem LpS.non (h : LpS w0 kb ab w id E eA0 sb cs k x0 N over eA en ec kA kn kc kr wx) (hc : Chg Non wx w2) : LpS w0 kb ab w id E eA0 sb cs k x0 N over eA en ec kA kn kc kr w2 :=
  ⟨h.all.non hc, h.aw.non hc, h.kd.non hc, h.sbx.non hc, h.sbg, h.abl, h.bas, h.awF, h.lp, h.here, h.chg.non hc, h.new, h.rown⟩
/-- The state's box is written. -/
theorem LpS.state (h : LpS w0 kb ab w id E eA0 sb cs k x0 N over eA en ec kA kn kc kr wx) (hc : Chg (fun b => b = sb) wx w2) {cs2 : Array Value} (hb : Blk w2 sb 95 cs2) : LpS w0 kb ab w id E eA0 sb cs2 k x0 N over eA en ec kA kn kc kr w2 ∧ Chg (Mine ab sb eA x0.aA kA) wx w2 := by
  have hs := h.sbx
  have hsg := h.sbg
  refine ⟨⟨h.all.chg hc (fun b e => ?_) (fun x hx h0 b hb e => ?_), h.aw.chg hc (fun g hg e => h.aw.apart hs (by decide) (by rw [← show g = sb from e]; exact hg)), h.kd.chg hc (fun g hg e => h.kd.apart hs (by decide) (by rw [← show g = sb from e]; exact hg)), hb, h.sbg, h.abl, h.bas, h.awF, h.lp, h.here, h.chg.trans2 hc (fun b e => .inr (by have e : b = sb := e; omega)), h.new, h.rown⟩, hc.mono (fun b e => .inr (.inl e))⟩
  · have e : b = sb := e
    have := h.abl
    have := h.bas
    exact ⟨by omega, by omega, fun hr => h.all.own.apart hs (by decide) (by rw [← e]; exact rowB_own hr)⟩
  · have e : b = sb := e
    rcases mem_mid2 hx with rfl | hx
    · exact h.aw.apart hs (by decide) (by rw [← e]; exact rowB_own hb)
    · exact (h.awF x hx h0 b hb).1 e
theorem Lp.same {y : Ent} (h : Lp id k x0 N) (hi : y.id = x0.id) (ha : y.aw = x0.aw) : Lp id k y N := ⟨hi.trans h.id0, h.under, h.once, h.aw, fun i hm => h.aw0 i (ha ▸ hm)⟩
/-- A cell of its own entry is written (not what it awaits). -/
theorem LpS.cell {g : Nat} (h : LpS w0 kb ab w id E eA0 sb cs k x0 N over (some ⟨g, 0, none⟩) en ec kA kn kc kr wx) {y : Ent} {j : Nat} {u : Value} (hj : j < 8) (hy : entC y = (entC x0).set j u) (hi : y.id = x0.id) (ha : y.aw = x0.aw) (hA : y.aA = x0.aA) (hn : y.an = x0.an) (hcc : y.ac = x0.ac) :
    LpS w0 kb ab w id E eA0 sb cs k y N over (some ⟨g, 0, none⟩) en ec kA kn kc kr (wx.setCell ⟨g, E.length * 8 + j, none⟩ u) ∧ Chg (Mine ab sb (some ⟨g, 0, none⟩) x0.aA kA) wx (wx.setCell ⟨g, E.length * 8 + j, none⟩ u) := by
  obtain ⟨h1, hc⟩ := h.all.cell (y := y) at_get hj hy (fun hk => by unfold EntOk at *; rw [ha, hA, hn, hi]; exact hk) hA hn
  rw [at_set] at h1
  have hs := h.sbx
  have hg : ∀ b, RowB (some (⟨g, 0, none⟩ : Addr)) b → b = g := fun b hb => by obtain ⟨ad, e, rfl⟩ := hb; cases e; rfl
  have hown : (Value.slice (some ⟨g, 0, none⟩) en ec).ownBlock = some g := rfl
  refine ⟨⟨h1, ?_, h.kd.chg hc (fun q hq e => h.kd.apart2 h.all.own (by decide) q hq (rowB_own e)), hs.chg hc (fun e => h.all.own.apart hs (by decide) (rowB_own e)), h.sbg, h.abl, h.bas, fun x hx h0 b hb => by rw [hA]; exact h.awF x hx h0 b hb, h.lp.same hi ha, h.here, h.chg.trans2 hc (fun b e => ?_), fun x hx h0 b hb => ?_, h.rown⟩, hc.mono (fun b e => .inr (.inr (.inl e)))⟩
  · have := h.aw.chg hc (fun q hq e => h.aw.apart2 h.all.own (by decide) q hq (rowB_own e))
    rw [hA, hn, hcc, ha]
    exact this
  · rcases h.rown b e with e2 | e2
    · exact .inl (.inr e2)
    · exact .inr e2
  · rcases List.mem_cons.1 hx with rfl | hx
    · rw [hn] at h0
      rw [hA] at hb
      exact h.new x0 (List.mem_cons_self ..) h0 b hb
    · exact h.new x (List.mem_cons_of_mem _ hx) h0 b hb
/-- A result is laid behind the others. -/
theorem LpS.res (h : LpS w0 kb ab w id E eA0 sb cs k x0 N over eA en ec kA kn kc kr wx) {kA2 : Option Addr} {kc2 : Nat} {r : Int × Int} (o : OwnR rkRs w2 w.heap.size (.slice kA2 (kn + 1) kc2) (kn + 1) (rsv kr ++ cellRs r)) (hc : Chg (fun b => (Value.slice kA kn kc).ownBlock = some b) wx w2) (hv : ∀ b, (Value.slice kA2 (kn + 1) kc2).ownBlock = some b → (Value.slice kA kn kc).ownBlock = some b ∨ wx.heap.size ≤ b) :
    LpS w0 kb ab w id E eA0 sb cs k x0 N over eA en ec kA2 (kn + 1) kc2 (kr ++ [r]) w2 ∧ Chg (Mine ab sb eA x0.aA kA) wx w2 ∧ ∀ b, Mine ab sb eA x0.aA kA2 b → Mine ab sb eA x0.aA kA b ∨ wx.heap.size ≤ b := by
  have hs := h.sbx
  have hk : ∀ b, RowB kA2 b → RowB kA b ∨ wx.heap.size ≤ b := fun b hb => (hv b (rowB_own hb)).imp own_rowB (fun e => e)
  refine ⟨⟨h.all.chg hc (fun b e => ?_) (fun x hx h0 b hb e => ?_), h.aw.chg hc (fun g hg e => h.aw.apart2 h.kd (by decide) g hg e), by rw [rsv_snoc]; exact o, hs.chg hc (fun e => h.kd.apart hs (by decide) e), h.sbg, h.abl, h.bas, fun x hx h0 b hb => ?_, h.lp, h.here, h.chg.trans2 hc (fun b e => .inr (h.kd.lt e).1), h.new, h.rown⟩, hc.mono (fun b e => .inr (.inr (.inr (.inr (own_rowB e))))), fun b hb => ?_⟩
  · have := (h.kd.lt e).1
    have := h.abl
    have := h.bas
    exact ⟨by omega, by omega, fun hr => h.kd.apart2 h.all.own (by decide) b e (rowB_own hr)⟩
  · rcases mem_mid2 hx with rfl | hx
    · exact h.aw.apart2 h.kd (by decide) b (rowB_own hb) e
    · exact (h.awF x hx h0 b hb).2.2.2 (own_rowB e)
  · have h1 := h.awF x hx h0 b hb
    have h2 := ((h.all.ok x (mem_mid hx)).2 h0 b hb).1
    exact ⟨h1.1, h1.2.1, h1.2.2.1, fun e => (hk b e).elim h1.2.2.2 (fun e => by omega)⟩
  · rcases hb with hb | hb | hb | hb | hb
    · exact .inl (.inl hb)
    · exact .inl (.inr (.inl hb))
    · exact .inl (.inr (.inr (.inl hb)))
    · exact .inl (.inr (.inr (.inr (.inl hb))))
    · exact (hk b hb).imp (fun e => .inr (.inr (.inr (.inr e)))) (fun e => e)
/-- A kid, and all that it spawned, is through. -/
theorem LpS.kid (h : LpS w0 kb ab w id E eA0 sb cs k x0 N over eA en ec kA kn kc kr wx) {M : List Ent} {over2 : Bool} {eA2 : Option Addr} {en2 ec2 : Nat} (hov : over = false) (hk : (kid id k).2 = true) (h2 : AllAt w0 kb ab ((E ++ x0 :: N) ++ M) over2 eA2 en2 ec2 w2) (hM : Sub (kid id k).1 M) (ho : over2 = false → ∃ y ∈ M, y.id = (kid id k).1) (hc : Chg (fun b => b = ab ∨ RowB eA b) wx w2)
    (hnew : ∀ x ∈ M, 0 < x.an → ∀ b, RowB x.aA b → wx.heap.size ≤ b) (hrow : ∀ b, RowB eA2 b → RowB eA b ∨ wx.heap.size ≤ b) :
    LpS w0 kb ab w id E eA0 sb cs (k + 1) x0 (N ++ M) over2 eA2 en2 ec2 kA kn kc kr w2 ∧ Chg (Mine ab sb eA x0.aA kA) wx w2 ∧ ∀ b, Mine ab sb eA2 x0.aA kA b → Mine ab sb eA x0.aA kA b ∨ wx.heap.size ≤ b := by
  have hs := h.sbx
  have hz := h.chg.size
  refine ⟨⟨?_, h.aw.chg hc (fun g hg e => ?_), h.kd.chg hc (fun g hg e => ?_), hs.chg hc (fun e => ?_), h.sbg, h.abl, h.bas, fun x hx h0 b hb => ?_, h.lp.add hk hM, fun e m hm => ?_, h.chg.trans2 hc (fun b e => ?_), fun x hx h0 b hb => ?_, fun b hb => ?_⟩, hc.mono (fun b e => e.elim .inl (fun e => .inr (.inr (.inl e)))), fun b hb => ?_⟩
  · have : (E ++ x0 :: N) ++ M = E ++ x0 :: (N ++ M) := by simp
    rw [← this]
    exact h2
  · rcases e with e | e
    · exact h.aw.apart h.all.box (by decide) (by rw [← e]; exact hg)
    · exact h.aw.apart2 h.all.own (by decide) g hg (rowB_own e)
  · rcases e with e | e
    · exact h.kd.apart h.all.box (by decide) (by rw [← e]; exact hg)
    · exact h.kd.apart2 h.all.own (by decide) g hg (rowB_own e)
  · rcases e with e | e
    · have := h.abl
      have := h.sbg
      omega
    · exact h.all.own.apart hs (by decide) (rowB_own e)
  · rw [← List.append_assoc] at hx
    rcases List.mem_append.1 hx with hx | hx
    · exact h.awF x hx h0 b hb
    · have h3 := hnew x hx h0 b hb
      exact ⟨by have := hs.lt; omega, by have := hs.lt; have := h.sbg; omega, fun e => by have := (h.aw.lt (rowB_own e)).2; omega, fun e => by have := (h.kd.lt (rowB_own e)).2; omega⟩
  · by_cases hmk : m = k
    · subst hmk
      obtain ⟨y, h3, h4⟩ := ho e
      exact ⟨hk, y, List.mem_append_right _ h3, h4⟩
    · obtain ⟨h5, y, h3, h4⟩ := h.here hov m (by omega)
      exact ⟨h5, y, List.mem_append_left _ h3, h4⟩
  · rcases e with e | e
    · exact .inl (.inl e)
    · exact (h.rown b e).imp .inr (fun e => e)
  · rw [← List.cons_append] at hx
    rcases List.mem_append.1 hx with hx | hx
    · exact h.new x hx h0 b hb
    · have := hnew x hx h0 b hb
      omega
  · rcases hrow b hb with e | e
    · exact h.rown b e
    · exact .inr (by omega)
  · rcases hb with hb | hb | hb | hb | hb
    · exact .inl (.inl hb)
    · exact .inl (.inr (.inl hb))
    · exact (hrow b hb).imp (fun e => .inr (.inr (.inl e))) (fun e => e)
    · exact .inl (.inr (.inr (.inr (.inl hb))))
    · exact .inl (.inr (.inr (.inr (.inr hb))))
/-- One more that it awaits. -/
def awEnt (x : Ent) (A2 : Option Addr) (c2 : Nat) (i : Int) : Ent := { x with aA := A2, an := x.an + 1, ac := c2, aw := x.aw ++ [i] }
theorem LpS.await {g : Nat} (h : LpS w0 kb ab w id E eA0 sb cs k x0 N over (some ⟨g, 0, none⟩) en ec kA kn kc kr wx) (hov : over = false) {i : Int} (hi0 : 0 ≤ i) (hik : i < k) (hk16 : k ≤ 16) (ha : x0.an < 1000000) {A2 : Option Addr} {c2 : Nat} (o : OwnR rkN w2 w.heap.size (.slice A2 (x0.an + 1) c2) (x0.an + 1) (iv x0.aw ++ [.int .i64 i])) (hc : Chg (fun b => (Value.slice x0.aA x0.an x0.ac).ownBlock = some b) wx w2) (hv : ∀ b, (Value.slice A2 (x0.an + 1) c2).ownBlock = some b → (Value.slice x0.aA x0.an x0.ac).ownBlock = some b ∨ wx.heap.size ≤ b) :
    LpS w0 kb ab w id E eA0 sb cs k (awEnt x0 A2 c2 i) N over (some ⟨g, 0, none⟩) en ec kA kn kc kr (w2.setCell ⟨g, E.length * 8 + 7, none⟩ (.slice A2 (x0.an + 1) c2)) ∧ Chg (Mine ab sb (some ⟨g, 0, none⟩) x0.aA kA) wx (w2.setCell ⟨g, E.length * 8 + 7, none⟩ (.slice A2 (x0.an + 1) c2)) ∧ ∀ b, Mine ab sb (some ⟨g, 0, none⟩) A2 kA b → Mine ab sb (some ⟨g, 0, none⟩) x0.aA kA b ∨ wx.heap.size ≤ b := by
  have hs := h.sbx
  have hA : ∀ b, RowB A2 b → RowB x0.aA b ∨ wx.heap.size ≤ b := fun b hb => (hv b (rowB_own hb)).imp own_rowB (fun e => e)
  have hg : ∀ b, RowB (some (⟨g, 0, none⟩ : Addr)) b → b = g := fun b hb => by obtain ⟨ad, e, rfl⟩ := hb; cases e; rfl
  have hgl := (h.all.own.lt (g := g) rfl)
  have hcs : Chg (fun b => b = g) w2 (w2.setCell ⟨g, E.length * 8 + 7, none⟩ (.slice A2 (x0.an + 1) c2)) := (Chg.refl _ _).set1 _ _
  have hx0 := h.all.ok x0 (List.mem_append_right _ (List.mem_cons_self ..))
  have hib : i64 i := by unfold i64; omega
  have own2 := h.all.own.chg hc (fun q hq e => h.aw.apart2 h.all.own (by decide) q e hq)
  have own3 := OwnR.putN (K := rkE) entC_len own2 (awEnt x0 A2 c2 i) at_get (j := 7) (u := .slice A2 (x0.an + 1) c2) (by decide) rfl
  rw [at_set] at own3
  have hgn : ∀ b, RowB x0.aA b → b ≠ g := fun b hb e => h.aw.apart2 h.all.own (by decide) b (rowB_own hb) (by rw [e]; rfl)
  have hgA : ∀ b, RowB A2 b → b ≠ g := fun b hb e => by
    rcases hA b hb with e2 | e2
    · exact hgn b e2 e
    · omega
  have hC : Chg (Mine ab sb (some ⟨g, 0, none⟩) x0.aA kA) wx (w2.setCell ⟨g, E.length * 8 + 7, none⟩ (.slice A2 (x0.an + 1) c2)) := (hc.mono (fun b e => .inr (.inr (.inr (.inl (own_rowB e)))))).trans2 hcs (fun b e => .inl (.inr (.inr (.inl ⟨_, rfl, by have e : b = g := e; exact e.symm⟩))))
  have hz := h.chg.size
  have o3 : OwnR rkN (w2.setCell ⟨g, E.length * 8 + 7, none⟩ (.slice A2 (x0.an + 1) c2)) w.heap.size (.slice A2 (x0.an + 1) c2) (x0.an + 1) (iv (x0.aw ++ [i])) := by
    rw [iv_app]
    exact o.chg hcs (fun q hq e => hgA q (own_rowB hq) e)
  refine ⟨⟨⟨h.all.kn.trans2 hC (fun b e => .inr (h.far b e)), (h.all.box.chg hc (fun e => h.aw.apart h.all.box (by decide) e)).chg hcs (fun e => h.all.own.apart h.all.box (by decide) (by rw [show ab = g from e]; rfl)), h.all.ge, own3, fun x hx => ?_⟩, o3, (h.kd.chg hc (fun q hq e => h.aw.apart2 h.kd (by decide) q e hq)).chg hcs (fun q hq e => h.kd.apart2 h.all.own (by decide) q hq (by rw [show q = g from e]; rfl)), (hs.chg hc (fun e => h.aw.apart hs (by decide) e)).chg hcs (fun e => h.all.own.apart hs (by decide) (by rw [show sb = g from e]; rfl)), h.sbg, h.abl, h.bas, fun x hx h0 b hb => ?_, ?_, h.here, h.chg.trans2 hC (fun b e => ?_), fun x hx h0 b hb => ?_, h.rown⟩, hC, fun b hb => ?_⟩
  · rcases mem_mid2 hx with rfl | hx
    · refine ⟨⟨o3.rds, by show x0.an + 1 ≤ 1000000; omega, hx0.1.2.2.1, fun q hq => ?_⟩, fun _ b hb => ?_⟩
      · rcases List.mem_append.1 hq with hq | hq
        · exact hx0.1.2.2.2 q hq
        · rw [List.mem_singleton.1 hq]
          exact hib
      · have h3 := (o3.lt (rowB_own hb))
        exact ⟨h3.2, by have := h.abl; omega, fun e => hgA b hb (hg b e)⟩
    · have hk := h.all.ok x (mem_mid hx)
      have hn := h.awF x hx
      refine ⟨hk.1.an_pos (fun h0 => (hk.1.1.chg hc (fun ad e e2 => (hn h0 _ ⟨ad, e, rfl⟩).2.2.1 (own_rowB e2))).chg hcs (fun ad e e2 => (hk.2 h0 _ ⟨ad, e, rfl⟩).2.2 ⟨_, rfl, by have e2 : ad.block = g := e2; exact e2.symm⟩)), fun h0 b hb => ?_⟩
      have h3 := hk.2 h0 b hb
      exact ⟨Nat.lt_of_lt_of_le h3.1 hC.size, h3.2⟩
  · have h1 := h.awF x hx h0 b hb
    have h2 := ((h.all.ok x (mem_mid hx)).2 h0 b hb).1
    exact ⟨h1.1, h1.2.1, fun e => (hA b e).elim h1.2.2.1 (fun e => by omega), h1.2.2.2⟩
  · refine ⟨h.lp.id0, h.lp.under, h.lp.once, h.lp.aw, fun q hq => ?_⟩
    rcases List.mem_append.1 hq with hq | hq
    · exact h.lp.aw0 q hq
    · rw [List.mem_singleton.1 hq]
      obtain ⟨m, rfl⟩ : ∃ m : Nat, i = m := ⟨i.toNat, by omega⟩
      exact h.here hov m (by omega)
  · rcases e with e | e | e | e | e
    · exact .inl (.inl e)
    · exact .inr (by have := h.sbg; omega)
    · exact (h.rown b e).imp .inr (fun e => e)
    · exact .inr (h.aw.lt (rowB_own e)).1
    · exact .inr (h.kd.lt (rowB_own e)).1
  · rcases List.mem_cons.1 hx with rfl | hx
    · exact (o3.lt (rowB_own hb)).1
    · exact h.new x (List.mem_cons_of_mem _ hx) h0 b hb
  · rcases hb with hb | hb | hb | hb | hb
    · exact .inl (.inl hb)
    · exact .inl (.inr (.inl hb))
    · exact .inl (.inr (.inr (.inl hb)))
    · exact (hA b hb).imp (fun e => .inr (.inr (.inr (.inl e)))) (fun e => e)
    · exact .inl (.inr (.inr (.inr (.inr hb))))
/-- What a task leaves. -/
def DoPost (w0 : World) (kb ab : Nat) (id : ByteArray) (E : List Ent) (eA0 : Option Addr) (w : World) (e : Ending) (w2 : World) : Prop :=
  ∃ er va over N eA en ec, e = .returned (.agg #[.int .i64 er, .int .i64 va]) ∧ AllAt w0 kb ab (E ++ N) over eA en ec w2 ∧ Sub id N ∧ (over = false → ∃ y ∈ N, y.id = id) ∧ Chg (fun b => b = ab ∨ RowB eA0 b) w w2 ∧ (∀ x ∈ N, 0 < x.an → ∀ b, RowB x.aA b → w.heap.size ≤ b) ∧ (∀ b, RowB eA b → RowB eA0 b ∨ w.heap.size ≤ b)
theorem LpS.post (h : LpS w0 kb ab w id E eA0 sb cs k x0 N over eA en ec kA kn kc kr wx) (er va : Int) : DoPost w0 kb ab id E eA0 w (.returned (.agg #[.int .i64 er, .int .i64 va])) wx :=
  ⟨er, va, over, x0 :: N, eA, en, ec, rfl, h.all, h.lp.sub, fun _ => ⟨x0, List.mem_cons_self .., h.lp.id0⟩, h.chg, h.new, h.rown⟩
/-- Blocks that are none of its own are written. -/
theorem LpS.other (h : LpS w0 kb ab w id E eA0 sb cs k x0 N over eA en ec kA kn kc kr wx) {S : Nat → Prop} (hc : Chg S wx w2) (hS : ∀ b, S b → w.heap.size ≤ b ∧ ¬ Mine ab sb eA x0.aA kA b) (hE : ∀ x ∈ E ++ N, 0 < x.an → ∀ b, RowB x.aA b → ¬ S b) : LpS w0 kb ab w id E eA0 sb cs k x0 N over eA en ec kA kn kc kr w2 := by
  refine ⟨h.all.chg hc (fun b e => ⟨Nat.le_trans h.bas (hS b e).1, fun e2 => (hS b e).2 (.inl e2), fun e2 => (hS b e).2 (.inr (.inr (.inl e2)))⟩) (fun x hx h0 b hb e => ?_), h.aw.chg hc (fun g hg e => (hS g e).2 (.inr (.inr (.inr (.inl (own_rowB hg)))))), h.kd.chg hc (fun g hg e => (hS g e).2 (.inr (.inr (.inr (.inr (own_rowB hg)))))), h.sbx.chg hc (fun e => (hS _ e).2 (.inr (.inl rfl))), h.sbg, h.abl, h.bas, h.awF, h.lp, h.here, h.chg.trans2 hc (fun b e => .inr (hS b e).1), h.new, h.rown⟩
  rcases mem_mid2 hx with rfl | hx
  · exact (hS b e).2 (.inr (.inr (.inr (.inl hb))))
  · exact hE x hx h0 b hb e
/-- The result is written. -/
theorem LpS.ret (h : LpS w0 kb ab w id E eA0 sb cs k x0 N over eA en ec kA kn kc kr wx) {c0 c1 : Value} (hr : BlkF (Mine ab sb eA x0.aA kA) wx w.heap.size 30 #[c0, c1]) (er va : Int) :
    DoPost w0 kb ab id E eA0 w (.returned (.agg #[.int .i64 er, .int .i64 va])) ((wx.setCell ⟨w.heap.size, 0, none⟩ (.int .i64 er)).setCell ⟨w.heap.size, 1, none⟩ (.int .i64 va)) ∧ Blk ((wx.setCell ⟨w.heap.size, 0, none⟩ (.int .i64 er)).setCell ⟨w.heap.size, 1, none⟩ (.int .i64 va)) w.heap.size 30 #[.int .i64 er, .int .i64 va] := by
  have h1 : Chg (fun b => b = w.heap.size) wx ((wx.setCell ⟨w.heap.size, 0, none⟩ (.int .i64 er)).setCell ⟨w.heap.size, 1, none⟩ (.int .i64 va)) := ((Chg.refl _ _).set1 _ _).set1 _ _
  have h2 := (hr.1.put 0 (.int .i64 er)).put 1 (.int .i64 va)
  simp only [List.setIfInBounds_toArray, List.set_cons_succ, List.set_cons_zero] at h2
  have hA := h.all.chg h1 (fun b e => by
    have e : b = w.heap.size := e
    exact ⟨by have := h.bas; omega, by have := h.abl; omega, fun hb => hr.2 (.inr (.inr (.inl (e ▸ hb))))⟩) (fun x hx h0 b hb e => by
    have e : b = w.heap.size := e
    rcases mem_mid2 hx with rfl | hx
    · exact hr.2 (.inr (.inr (.inr (.inl (e ▸ hb)))))
    · exact (h.awF x hx h0 b hb).2.1 e)
  exact ⟨⟨er, va, over, x0 :: N, eA, en, ec, rfl, hA, h.lp.sub, fun _ => ⟨x0, List.mem_cons_self .., h.lp.id0⟩, h.chg.trans2 h1 (fun b e => .inr (Nat.le_of_eq e.symm)), h.new, h.rown⟩, h2⟩
end
theorem kid_vid {s : ByteArray} {k : Int} (h : (kid s k).2 = true) : vid (kid s k).1 = true ∧ (kid s k).1.size = s.size + 1 := by
  have h1 := kid_is h
  have hl : (kid s k).1.data.toList = s.data.toList ++ [UInt8.ofNat k.toNat] := h1.1
  have hsz : (kid s k).1.size = s.size + 1 := by
    rw [← size_list, hl, List.length_append, size_list]
    rfl
  refine ⟨?_, hsz⟩
  have hv := h1.2.1
  unfold vid at hv ⊢
  rw [Bool.and_eq_true] at hv ⊢
  refine ⟨decide_eq_true (by omega), ?_⟩
  rw [hl, List.all_append, hv.2]
  have : (UInt8.ofNat k.toNat).toNat < 16 := by rw [UInt8.toNat_ofNat']; omega
  rw [Bool.true_and]
  simp only [List.all_cons, List.all_nil, Bool.and_true, okD, decide_eq_true_eq]
  exact this
theorem kid_yes {s : ByteArray} {k : Int} (hv : vid s = true) (h12 : s.size < 12) (h0 : 0 ≤ k) (h16 : k < 16) : (kid s k).2 = true := by
  unfold kid
  rw [if_pos ⟨hv, h12, h0, h16⟩]
/-- An entry more. -/
theorem AllAt.push {w0 wx w5 : World} {kb ab : Nat} {E : List Ent} {over : Bool} {eA : Option Addr} {en ec : Nat} (h : AllAt w0 kb ab E over eA en ec wx) {x : Ent} (hx : EntOk wx x) (h0 : x.an = 0) {A2 : Option Addr} {c2 : Nat} (o : OwnR rkE w5 w0.heap.size (.slice A2 (en + 1) c2) (en + 1) (evs E ++ entC x)) (hc : Chg (fun b => (Value.slice eA en ec).ownBlock = some b) wx w5) (hv : ∀ b, (Value.slice A2 (en + 1) c2).ownBlock = some b → (Value.slice eA en ec).ownBlock = some b ∨ wx.heap.size ≤ b) :
    AllAt w0 kb ab (E ++ [x]) over A2 (en + 1) c2 (w5.setCell ⟨ab, 1, none⟩ (.slice A2 (en + 1) c2)) ∧ Chg (fun b => b = ab ∨ RowB eA b) wx (w5.setCell ⟨ab, 1, none⟩ (.slice A2 (en + 1) c2)) ∧ ∀ b, RowB A2 b → RowB eA b ∨ wx.heap.size ≤ b := by
  have hA : ∀ b, RowB A2 b → RowB eA b ∨ wx.heap.size ≤ b := fun b hb => (hv b (rowB_own hb)).imp own_rowB (fun e => e)
  have hcs : Chg (fun b => b = ab) w5 (w5.setCell ⟨ab, 1, none⟩ (.slice A2 (en + 1) c2)) := (Chg.refl _ _).set1 _ _
  have hC : Chg (fun b => b = ab ∨ RowB eA b) wx (w5.setCell ⟨ab, 1, none⟩ (.slice A2 (en + 1) c2)) := (hc.mono (fun b e => .inr (own_rowB e))).trans2 hcs (fun b e => .inl (.inl e))
  have hb := (h.box.chg hc (fun e => h.own.apart h.box (by decide) e)).put 1 (.slice A2 (en + 1) c2)
  simp only [List.setIfInBounds_toArray, List.set_cons_succ, List.set_cons_zero] at hb
  have hal := h.box.lt
  refine ⟨⟨h.kn.trans2 hC (fun b e => .inr ?_), hb, h.ge, ?_, fun z hz => ?_⟩, hC, hA⟩
  · rcases e with e | e
    · have := h.ge; omega
    · exact (h.own.lt (rowB_own e)).1
  · rw [evs_snoc]
    refine o.chg hcs (fun q hq e => ?_)
    have e : q = ab := e
    rcases hv q hq with e2 | e2
    · exact h.own.apart h.box (by decide) (by rw [← e]; exact e2)
    · omega
  · rcases List.mem_append.1 hz with hz | hz
    · have hk := h.ok z hz
      refine ⟨hk.1.an_pos (fun h0 => (hk.1.1.chg hC (fun ad e e2 => ?_))), fun h0 b hb => ?_⟩
      · have h3 := hk.2 h0 _ ⟨ad, e, rfl⟩
        exact e2.elim h3.2.1 h3.2.2
      · have h3 := hk.2 h0 b hb
        exact ⟨Nat.lt_of_lt_of_le h3.1 hC.size, h3.2.1, fun e => (hA b e).elim h3.2.2 (fun e => by omega)⟩
    · rw [List.mem_singleton.1 hz]
      exact ⟨hx.an_pos (fun h => by omega), fun h => by omega⟩
/-- The beginning of a task. -/
theorem LpS.start {w0 w wx : World} {kb ab : Nat} {id : ByteArray} {E : List Ent} {eA0 : Option Addr} {sb : Nat} {x0 : Ent} {over : Bool} {eA : Option Addr} {en ec : Nat} (h : AllAt w0 kb ab (E ++ [x0]) over eA en ec wx) (hi : x0.id = id) (hA : x0.aA = none) (hn : x0.an = 0) (hc0 : x0.ac = 0) (hw : x0.aw = []) {cs : Array Value} (hs : Blk wx sb 95 cs) (hsg : w.heap.size ≤ sb) (hab : ab < w.heap.size) (hb : w0.heap.size ≤ w.heap.size) (hE : ∀ x ∈ E, 0 < x.an → ∀ b, RowB x.aA b → b < w.heap.size) (hc : Chg (fun b => b = ab ∨ RowB eA0 b) w wx) (hr : ∀ b, RowB eA b → RowB eA0 b ∨ w.heap.size ≤ b) :
    LpS w0 kb ab w id E eA0 sb cs 0 x0 [] over eA en ec none 0 0 [] wx := by
  refine ⟨h, ?_, OwnR.nil _ _ _, hs, hsg, hab, hb, fun x hx h0 b hb => ?_, ⟨hi, (fun x hx => nomatch hx), List.nodup_nil, (fun x hx => nomatch hx), (fun i hi => by rw [hw] at hi; exact nomatch hi)⟩, fun _ m hm => by omega, hc, fun x hx h0 => ?_, hr⟩
  · rw [hA, hn, hc0, hw]
    exact OwnR.nil _ _ _
  · rw [List.append_nil] at hx
    have := hE x hx h0 b hb
    exact ⟨(by omega), (by omega), (fun e => by rw [hA] at e; obtain ⟨_, e, _⟩ := e; cases e), (fun e => by obtain ⟨_, e, _⟩ := e; cases e)⟩
  · simp only [List.mem_singleton] at hx
    subst hx
    omega
/-- Between two rounds. -/
def HdR (w0 : World) (kb ab : Nat) (w : World) (id : ByteArray) (E : List Ent) (eA0 : Option Addr) (sb : Nat) (fuel : Int) (m : Nat) (v : Value) (wr : World) : Prop :=
  ∃ x0 N over eA en ec kA kn kc kr s, v = .slice kA kn kc ∧ LpS w0 kb ab w id E eA0 sb (stC s) kn x0 N over eA en ec kA kn kc kr wr ∧ BlkF (Mine ab sb eA x0.aA kA) wr w.heap.size 30 #[.int .i64 0, .int .i64 0] ∧ RdF (Mine ab sb eA x0.aA kA) wr s.sA s.sn (iv s.S) ∧ RdF (Mine ab sb eA x0.aA kA) wr s.lA s.ln (iv s.L) ∧ s.sn ≤ 1000 ∧ s.ln ≤ 1000 ∧ s.wt = false ∧ s.k = kn ∧ kn ≤ 16 ∧ (x0.an : Int) ≤ s.u ∧ s.u ≤ fuel ∧ (fuel - s.u).toNat = m
/-- A region at whose end a whole struct is stored, of which a part taken out of what a call handed over may stand on either side: over XRegionY's structure. -/
theorem y_region_last {P : Program} (d tl jf : Nat) (T : Nat → Prop) (majs mins : List Nat) (post keep : Nat → List Value → Value → World → Prop) (shape : Nat → List Value → Value → Prop) (S : World → Prop) {L : List Oper} {w : World} {id : Nat} {Q : Exit → Act → World → Prop} {a : Act} {oj otl : Oper} {tj : Operand} {ix : Nat}
    (hm : P.follows .mixedOrders = true) (hok : okB L.toArray majs d = true) (ht : tailB L.toArray (tl + 1) d = true) (ht0 : lastB L.toArray tl jf d = true) (hjt : jf < tl) (hoj : L[jf]? = some oj) (hotl : L[tl]? = some otl) (hjm : majs.contains jf = false) (hjn : mins.contains jf = false) (hjg : oj.guard = none) (hjx : oj.op = .extract tj ix) (htg : otl.guard = none)
    (hT : ∀ b, T b → b < w.heap.size) (hS : S w.drew) (hSa : ∀ w ob, S w → S (w.alloc ob))
    (h : WY P L.toArray { T := T, w0 := w, majs := majs, mins := mins, post := post, keep := keep, shape := shape, tl := tl, E := fun a w => ∃ w2, (execOp a.eval otl).run P w = .ok .skip w2 ∧ wpList P L.toArray Q (L.drop (tl + 1)) (a.put otl.dst undef) w2 } (fun a w => Q .normal a w) 0 L [] S (fun _ _ => True) a) : (Code.region id L.toArray true).wp P Q a w :=
  st_region_last d tl jf T majs mins post keep shape S hm hok ht ht0 hjt hoj hotl hjm hjn hjg hjx htg hT hS hSa h.out
theorem last_store {P : Program} {o : Oper} {a : Act} {w : World} {ty : TypeId} {R : World → Prop} (x y : Operand) (ho : o.op = .store ty x y) {g : Nat} {cs old : Array Value} {t : TypeId} (hx : a.eval x = .pointer (some ⟨g, 0, none⟩)) (hy : a.eval y = .agg cs) (hb : Blk w g t old) (hsz : cs.size = old.size)
    (hi : (P.info? ty).map (·.size) = some cs.size) (h1 : cs.all (·.oneCell') = true) (h : ∀ w2, Blk w2 g t cs → Chg (fun b => b = g) w w2 → R w2) : ∃ w2, (execOp a.eval o).run P w = .ok .skip w2 ∧ R w2 := by
  refine ⟨_, exec_store x y ho hx hy hb hsz hi h1, h _ ?_ (Chg.sets (S := fun b => b = g) (.inl rfl) cs.toList 0 w (Chg.refl _ _))⟩
  have := hb.puts cs.toList 0 _ _
  rw [putAll_whole (by simpa using hsz)] at this
  simpa using this
/-- What an event says, kept. -/
theorem RnOk.step {w wr w2 w3 : World} {j : Jb} {deep : Int} {s s2 : Stt} {ev : Evt} (h : RnOk w w2 j deep s s2 ev) (hz : wr.heap.size ≤ w.heap.size) (hc : Chg Non w2 w3) : RnOk wr w3 j deep s s2 ev := by
  rcases h with h | ⟨h1, h2, h3, h4, h5, h6, h7, h8, h9, h10, h11, h12⟩ | h
  · exact .inl h
  · exact .inr (.inl ⟨h1, h2, h3, h4, h5, h6, h7, h8, h9, h10.non hc, h11, fun b hb => Nat.le_trans hz (h12 b hb)⟩)
  · exact .inr (.inr h)
/-- What a run leaves, for good. -/
def RnK (wr : World) (j : Jb) (deep : Int) (s : Stt) (v : Value) (wx : World) : Prop :=
  ∃ s2 ev, v = .tuple #[.agg (stC s2), .agg (evC ev)] ∧ StW wx s2 ∧ (∀ b, RowB s2.sA b → wr.heap.size ≤ b) ∧ (∀ b, RowB s2.lA b → wr.heap.size ≤ b) ∧ RnOk wr wx j deep s s2 ev
theorem RnK.non {wr wx w2 : World} {j : Jb} {deep : Int} {s : Stt} {v : Value} (h : RnK wr j deep s v wx) (hc : Chg Non wx w2) : RnK wr j deep s v w2 := by
  obtain ⟨s2, ev, h1, h2, h3, h4, h5⟩ := h
  exact ⟨s2, ev, h1, h2.non hc, h3, h4, h5.step (Nat.le_refl _) hc⟩
/-- What a resuming leaves, for good. -/
def RsK (wr : World) (s : Stt) (v : Value) (wx : World) : Prop :=
  ∃ s2 ev, v = .tuple #[.agg (stC s2), .agg (evC ev)] ∧ StAt wx s2 ∧ (∀ b, RowB s2.sA b → wr.heap.size ≤ b) ∧ (∀ b, RowB s2.lA b → wr.heap.size ≤ b) ∧ (ev.kind = 3 ∨ (ev.kind = 0 ∧ s2.wt = false ∧ s2.k = s.k ∧ s2.u = s.u))
theorem RsK.non {wr wx w2 : World} {s : Stt} {v : Value} (h : RsK wr s v wx) (hc : Chg Non wx w2) : RsK wr s v w2 := by
  obtain ⟨s2, ev, h1, h2, h3⟩ := h
  exact ⟨s2, ev, h1, h2.non hc, h3⟩
end Go.Proofs.Yteinbdifncdaiaa
