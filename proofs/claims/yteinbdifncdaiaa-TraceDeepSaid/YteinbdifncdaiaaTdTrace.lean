/-
  trace: first, after.
  gleanerlaw29.entries: the tree by hand.
-/
import Derived.Test.YteinbdifncdaiaaTdCms
import Derived.Test.YteinbdifncdaiaaTdMaps
import Derived.Test.YteinbdifncdaiaaTdOwn
import Derived.Test.YteinbdifncdaiaaTdRow
namespace Go.Proofs.Yteinbdifncdaiaa
open Go.RowKit
set_option linter.unusedVariables false
set_option linter.unusedSimpArgs false

noncomputable abbrev idKey : KeyKind Try.prog 26 ByteArray := strKey Try.underlying26

def entF (E : List Ent) (a : ByteArray) : Option Value := (oneOf E a).map entV
theorem one_step_in {E : List Ent} {k : Nat} {x y : Ent} (hx : E[k]? = some x) (h : oneOf (E.take k) x.id = some y) (a : ByteArray) : entF (E.take k) a = entF (E.take (k + 1)) a := by
  unfold entF
  rw [List.take_add_one, hx, Option.toList_some]
  cases ha : oneOf (E.take k) a with
  | some z => rw [oneOf_snoc_in ha]
  | none =>
    rw [oneOf_snoc_out ha, if_neg]
    rintro rfl
    rw [h] at ha
    cases ha
theorem one_step_out {E : List Ent} {k : Nat} {x : Ent} (hx : E[k]? = some x) (h : oneOf (E.take k) x.id = none) (a : ByteArray) : (if a = x.id then some (entV x) else entF (E.take k) a) = entF (E.take (k + 1)) a := by
  unfold entF
  rw [List.take_add_one, hx, Option.toList_some]
  by_cases e : a = x.id
  · subst e
    rw [if_pos rfl, oneOf_snoc_out h, if_pos rfl]
    rfl
  · rw [if_neg e]
    cases ha : oneOf (E.take k) a with
    | some z => rw [oneOf_snoc_in ha]
    | none => rw [oneOf_snoc_out ha, if_neg (fun e2 => e e2.symm)]

/-- An entry's cells. -/
theorem Rds.getE {w : World} {A : Option Addr} {n : Nat} {E : List Ent} (h : Rds w 8 A n (evs E)) {k : Nat} (hk : k < n) :
    ∃ ad x, A = some ad ∧ E[k]? = some x ∧ w.cell? (ad.add (k * 8)) = some (.string x.id) ∧ w.cell? ⟨(ad.add (k * 8)).block, (ad.add (k * 8)).off + 1, none⟩ = some (.int .i64 x.fn) ∧
      w.cell? ⟨(ad.add (k * 8)).block, (ad.add (k * 8)).off + 2, none⟩ = some (.slice x.gA x.gn x.gc) ∧ w.cell? ⟨(ad.add (k * 8)).block, (ad.add (k * 8)).off + 3, none⟩ = some (.int .i64 x.err) ∧
      w.cell? ⟨(ad.add (k * 8)).block, (ad.add (k * 8)).off + 4, none⟩ = some (.int .i64 x.val) ∧ w.cell? ⟨(ad.add (k * 8)).block, (ad.add (k * 8)).off + 5, none⟩ = some (.int .i64 x.steps) ∧
      w.cell? ⟨(ad.add (k * 8)).block, (ad.add (k * 8)).off + 6, none⟩ = some (.int .i64 x.kids) ∧ w.cell? ⟨(ad.add (k * 8)).block, (ad.add (k * 8)).off + 7, none⟩ = some (.slice x.aA x.an x.ac) := by
  obtain ⟨ad, x, h1, h2, h3, h4⟩ := h.getN entC_len (by decide) hk
  exact ⟨ad, x, h1, h2, h3 _ rfl, h4 0 _ rfl, h4 1 _ rfl, h4 2 _ rfl, h4 3 _ rfl, h4 4 _ rfl, h4 5 _ rfl, h4 6 _ rfl⟩

set_option maxRecDepth 100000 in
set_option maxHeartbeats 1000000 in
theorem first_any (w : World) (A : Option Addr) (n c : Nat) (E : List Ent) (h : EntRow w A n E) (hn : n ≤ 1000000) :
    Calls Try.prog 20 #[.slice A n c] w fun e w2 => ∃ g m, e = .returned (.map (some g)) ∧ Mp idKey w2 g m (entF E) ∧ w.heap.size ≤ g ∧ Chg Non w w2 := by
  have hmm := @run_makeMap Try.prog
  have Hrow := Lib.hid h.row
  have Hlen := Lib.hid h.len
  have Hok := Lib.hid h.ok
  clear h
  have hM := (Mp.made idKey w).congr (f2 := entF (E.take 0)) (fun a => rfl)
  have hC0 : Chg Non w (w.alloc (.map #[] 0)) := (Chg.refl _ _).alloc _
  have hs0 : w.heap.size < (w.alloc (.map #[] 0)).heap.size := by simp
  go_enter Try.func20, Try.ntmps20
  go_wp2_with fail
  go_loopw [11] (fun i wr => ∃ k m : Nat, k ≤ n ∧ i = .int .i64 k ∧ m ≤ k ∧ Mp idKey wr w.heap.size m (entF (E.take k)) ∧ Chg Non w wr ∧ w.heap.size < wr.heap.size) (fun i _ => n - (intOf i).toNat)
  case atStart => exact ⟨0, 0, Nat.zero_le _, rfl, Nat.le_refl _, hM, hC0, hs0⟩
  case round =>
    clear hM hC0 hs0
    obtain ⟨k, m, hk, rfl, hmk, hm, hC, hs⟩ := hrel
    by_cases hlt : k < n
    · obtain ⟨ad, x, rfl, hx, a0, a1, a2, a3, a4, a5, a6, a7⟩ := Hrow.out.getE hlt
      have a0 := hC.cell a0 id
      have a1 := hC.cell a1 id
      have a2 := hC.cell a2 id
      have a3 := hC.cell a3 id
      have a4 := hC.cell a4 id
      have a5 := hC.cell a5 id
      have a6 := hC.cell a6 id
      have a7 := hC.cell a7 id
      have hid := (Hok.out x (List.mem_of_getElem? hx)).2.2.1
      have b1 : (0 : Int) ≤ (k : Int) := by omega
      have b2 : (k : Int) < n := by omega
      have hmB := hm.alloc (.cells #[.string x.id, .int .i64 x.fn, .slice x.gA x.gn x.gc, .int .i64 x.err, .int .i64 x.val, .int .i64 x.steps, .int .i64 x.kids, .slice x.aA x.an x.ac] 32)
      cases ho : oneOf (E.take k) x.id with
      | some y =>
        have q1 := hmB.look_okS Try.underlying55 (z := .agg #[.string ⟨#[]⟩, .int .i64 0, .slice none 0 0, .int .i64 0, .int .i64 0, .int .i64 0, .int .i64 0, .slice none 0 0]) (by kernel_rfl) hid (u := some (entV y)) (by unfold entF; rw [ho]; rfl)
        simp only [Option.getD_some, Option.isSome_some, entV] at q1
        have Hst := Lib.hid (one_step_in hx ho)
        have Hm := Lib.hid hmB
        clear hx ho hm hmB
        go_wp2_with fail
        go_roundw
        case rel => exact ⟨k + 1, m, by omega, by go_num, by omega, (Hm.out.congr Hst.out).alloc _, (hC.alloc _).alloc _, by simp; omega⟩
        case measure => simp [intOf]; omega
      | none =>
        have q1 := hmB.look_okS Try.underlying55 (z := .agg #[.string ⟨#[]⟩, .int .i64 0, .slice none 0 0, .int .i64 0, .int .i64 0, .int .i64 0, .int .i64 0, .slice none 0 0]) (by kernel_rfl) hid (u := none) (by unfold entF; rw [ho]; rfl)
        simp only [Option.getD_none, Option.isSome_none] at q1
        have hno : (entF (E.take k) x.id).isSome = false := by unfold entF; rw [ho]; rfl
        have Hno := Lib.hid hno
        have Hst := Lib.hid (one_step_out hx ho)
        have hmC := hmB.alloc (.cells #[.string ⟨#[]⟩, .int .i64 0, .slice none 0 0, .int .i64 0, .int .i64 0, .int .i64 0, .int .i64 0, .slice none 0 0] 32)
        have Hm := Lib.hid hmC
        clear hx ho hm hmB hno hmC
        go_wp2_with (at_mapUpdate; refine wp_store_Mp (K := idKey) rfl (.tmp 24) (.tmp 26) (.tmp 27) 55 rfl Hm.out Try.underlying55 (by unfold maxLen; omega) rfl (b := x.id) hid rfl (u := entV x) rfl ?_; intro w6 hm6 hc6)
        rw [Hno.out] at hm6
        have hC6 : Chg Non w w6 := ((hC.alloc _).alloc _).trans2 hc6 (fun b e => .inr (by have e : b = w.heap.size := e; omega))
        have hm7 := hm6.congr Hst.out
        have hs6 := hc6.size
        simp only [World.size_alloc] at hs6
        go_roundw
        case rel => exact ⟨k + 1, m + 1, by omega, by go_num, by omega, hm7, hC6, by omega⟩
        case measure => simp [intOf]; omega
    · have hst : E.take k = E := List.take_of_length_le (by have := Hlen.out; omega)
      rw [hst] at hm
      clear hst
      go_wp2_with fail
      go_ret
      exact ⟨_, m, rfl, hm, Nat.le_refl _, hC⟩

theorem inF_put {p : ByteArray → Bool} (x a : ByteArray) : (if a = x then some (Value.bool true) else inF p a) = inF (fun b => p b || decide (x = b)) a := by
  unfold inF
  by_cases h : a = x
  · subst h; simp
  · have h2 : ¬ x = a := fun e => h e.symm
    simp [h, h2]
theorem inF_get (p : ByteArray → Bool) (x : ByteArray) : (inF p x).getD (.bool false) = .bool (p x) := by
  unfold inF
  cases p x <;> rfl

set_option maxRecDepth 100000 in
set_option maxHeartbeats 1000000 in
theorem after_any (w : World) (g n : Nat) (x : Ent) (ahead : List ByteArray) (h : Mp idKey w g n (inF (inB ahead))) (hx : EntOk w x) :
    Calls Try.prog 21 #[entV x, .map (some g)] w fun e w2 => e = .returned (.bool (goes x ahead)) ∧ Chg Non w w2 := by
  obtain ⟨hr, han, hid, h64⟩ := hx
  have Hr := Lib.hid hr
  have Hlen := Lib.hid (hr.lenMap (f := fun n : Int => .int .i64 n))
  have H64 := Lib.hid h64
  have H := Lib.hid h
  clear hr h64 h
  unfold entV
  have hbx := Blk.new w 32 #[.string x.id, .int .i64 x.fn, .slice x.gA x.gn x.gc, .int .i64 x.err, .int .i64 x.val, .int .i64 x.steps, .int .i64 x.kids, .slice x.aA x.an x.ac]
  have hC0 : Chg Non w (w.alloc (.cells #[.string x.id, .int .i64 x.fn, .slice x.gA x.gn x.gc, .int .i64 x.err, .int .i64 x.val, .int .i64 x.steps, .int .i64 x.kids, .slice x.aA x.an x.ac] 32)) := (Chg.refl _ _).alloc _
  go_enter Try.func21, Try.ntmps21
  go_wp2_with fail
  go_loopw [12] (fun i wr => ∃ k : Nat, k ≤ x.an ∧ i = .int .i64 k ∧ Hid ((x.aw.take k).all (fun k => (kid x.id k).2 && inB ahead (kid x.id k).1) = true) ∧ Blk wr w.heap.size 32 #[.string x.id, .int .i64 x.fn, .slice x.gA x.gn x.gc, .int .i64 x.err, .int .i64 x.val, .int .i64 x.steps, .int .i64 x.kids, .slice x.aA x.an x.ac] ∧ Chg Non w wr) (fun i _ => x.an - (intOf i).toNat)
  case atStart => exact ⟨0, Nat.zero_le _, rfl, rfl, hbx, hC0⟩
  case round =>
    clear hbx hC0
    obtain ⟨k, hk, rfl, hall, hb, hC⟩ := hrel
    by_cases hlt : k < x.an
    · obtain ⟨ad, y, hA, hy, hc⟩ := Hr.out.getI hlt
      have hy64 := H64.out y (List.mem_of_getElem? hy)
      have c0 := hb.cell 0
      simp only [List.getElem?_toArray, List.getElem?_cons_zero] at c0
      have a0 := hC.cell hc _root_.id
      have b1 : (0 : Int) ≤ (k : Int) := by omega
      have b2 : (k : Int) < x.an := by omega
      have hbl := hb.lt
      have hstep : (x.aw.take (k + 1)).all (fun k => (kid x.id k).2 && inB ahead (kid x.id k).1) = ((kid x.id y).2 && inB ahead (kid x.id y).1) := by
        rw [List.take_add_one, hy, List.all_append, hall.out]
        simp
      have hbad : ((kid x.id y).2 && inB ahead (kid x.id y).1) = false → goes x ahead = false := fun hf => by
        unfold goes
        rw [List.all_eq_false]
        exact ⟨y, List.mem_of_getElem? hy, by rw [hf]; decide⟩
      have Hst := Lib.hid hstep
      have Hbad := Lib.hid hbad
      have HA := Lib.hid hA
      have hk1 : (kid x.id y).1.size ≤ maxLen := by
        unfold kid
        split
        · rename_i h; rw [ByteArray.size_append]; unfold maxLen; have := h.2.1; have e : (⟨#[UInt8.ofNat y.toNat]⟩ : ByteArray).size = 1 := rfl; simp only [e]; omega
        · decide
      have Hb := Lib.hid hb
      rw [hA]
      clear hstep hbad hy hc hall hb hA
      go_wp2_with fail
      refine (kid_any x.id y _ hy64).mono ?_
      rintro e w3 ⟨rfl, hc3⟩
      have hC3 := hC.non hc3
      have hb3 := Hb.out.non hc3
      generalize kid x.id y = kd at hk1 Hst Hbad ⊢
      obtain ⟨ki, ok⟩ := kd
      simp only at hk1 Hst Hbad ⊢
      have q1 := (H.out.non hC3).lookS Try.underlying57 (z := .bool false) (by kernel_rfl) hk1 (u := inF (inB ahead) ki) rfl
      rw [inF_get] at q1
      cases ok with
      | false =>
        clear hc3 q1
        go_wp2_with fail
        go_ret
        exact ⟨by rw [Hbad.out rfl]; rfl, hC3⟩
      | true =>
        cases hi : inB ahead ki with
        | false =>
          rw [hi] at q1 Hbad
          clear hi hc3
          go_wp2_with fail
          go_ret
          exact ⟨by rw [Hbad.out rfl]; rfl, hC3⟩
        | true =>
          rw [hi] at q1 Hst
          clear hi hc3
          go_wp2_with fail
          go_roundw
          case rel => exact ⟨k + 1, by omega, by go_num, Hst.out, (by have h := hb3; rw [HA.out] at h; exact h), hC3⟩
          case measure => simp [intOf]; omega
    · have hgo : goes x ahead = true := by
        unfold goes
        have := hall.out
        rwa [List.take_of_length_le (by have := Hlen.out; omega)] at this
      have Hgo := Lib.hid hgo
      clear hgo hall
      go_wp2_with fail
      go_ret
      exact ⟨by rw [Hgo.out]; rfl, hC⟩

abbrev rkE : RowKind Try.prog where
  t := 23
  e := 32
  z := .agg #[.string ⟨#[]⟩, .int .i64 0, .slice none 0 0, .int .i64 0, .int .i64 0, .int .i64 0, .int .i64 0, .slice none 0 0]
  size := 8
  bytes := 104
  ht := Try.underlying23
  info := by kernel_rfl
  hz := rfl
  hs := by decide
  hb := by decide
abbrev rkN : RowKind Try.prog where
  t := 27
  e := 3
  z := .int .i64 0
  size := 1
  bytes := 8
  ht := Try.underlying27
  info := by kernel_rfl
  hz := rfl
  hs := by decide
  hb := by decide
theorem OwnR.apart2 {P : Program} {K K2 : RowKind P} {w : World} {b b2 n m : Nat} {v v2 : Value} {xs ys : List Value} (h : OwnR K w b v n xs) (h2 : OwnR K2 w b2 v2 m ys) (hne : K.e ≠ K2.e) : ∀ g, v.ownBlock = some g → v2.ownBlock ≠ some g := by
  intro g hg hg2
  rcases h2.2 with ⟨e, _⟩ | ⟨g2, cap, cur, e, _, hh, _⟩
  · rw [e] at hg2; cases hg2
  · rw [e] at hg2
    have e2 : g2 = g := by simpa [Value.ownBlock] using hg2
    subst e2
    exact h.apart (t := K2.e) (cs := cur) hh hne hg
theorem conv1 {k : Nat} (hk : k < 256) (w : World) (g : Nat) (hg : w.heap.size = g) : (convert 54 26 (.slice (some ⟨g, 0, none⟩) 1 1)).run Try.prog (w.alloc (.cells #[.int .u8 (k : Int)] 5)) = .ok (.string (one k)) (w.alloc (.cells #[.int .u8 (k : Int)] 5)) := by
  subst hg
  have h1 : Rds (w.alloc (.cells #[.int .u8 (k : Int)] 5)) 1 (some ⟨w.heap.size, 0, none⟩) 1 (bv [UInt8.ofNat k]) := by
    have := Rds.block (Blk.new w 5 #[.int .u8 (k : Int)]) (n := 1) rfl
    simpa [bv, show k % 256 = k by omega] using this
  exact run_string_rds (L := [UInt8.ofNat k]) Try.underlying54 Try.underlying5 Try.underlying26 h1 1

def rng (k : Nat) : List Int := (List.range k).map fun i : Nat => (i : Int)
theorem rng_succ (k : Nat) : rng (k + 1) = rng k ++ [(k : Int)] := by simp [rng, List.range_succ]
theorem rng_len (k : Nat) : (rng k).length = k := by simp [rng]
/-- The rounds of entries. -/
def RelE (w : World) (n : Nat) (v i : Value) (wr : World) : Prop :=
  ∃ (k g c : Nat) (A : Option Addr) (ac : Nat), k ≤ n ∧ i = .int .i64 k ∧ v = .slice (some ⟨g, 0, none⟩) (k + 1) c ∧ OwnR rkE wr w.heap.size (.slice (some ⟨g, 0, none⟩) (k + 1) c) (k + 1) (evs (tree A ac k k)) ∧ OwnR rkN wr w.heap.size (.slice A k ac) k (iv (rng k)) ∧ Chg Non w wr
/-- What entries answers. -/
def EntriesPost (w : World) (n : Nat) (e : Ending) (w2 : World) : Prop :=
  ∃ (g c : Nat) (A : Option Addr) (ac : Nat), e = .returned (.slice (some ⟨g, 0, none⟩) (n + 1) c) ∧ OwnR rkE w2 w.heap.size (.slice (some ⟨g, 0, none⟩) (n + 1) c) (n + 1) (evs (tree A ac n n)) ∧ OwnR rkN w2 w.heap.size (.slice A n ac) n (iv (rng n)) ∧ Chg Non w w2

set_option maxRecDepth 100000 in
set_option maxHeartbeats 2000000 in
theorem entries_any (w : World) (n : Nat) (hn : n ≤ 16) :
    Calls Try.prog 8 #[.int .i64 (n : Int)] w (EntriesPost w n) := by
  have hE0 : OwnR rkE (w.alloc (.cells #[.string ⟨#[]⟩, .int .i64 0, .slice none 0 0, .int .i64 0, .int .i64 100, .int .i64 0, .int .i64 0, .slice none 0 0] 32)) w.heap.size (.slice (some ⟨w.heap.size, 0, none⟩) 1 1) 1 (evs (tree none 0 0 0)) :=
    ⟨rfl, .inr ⟨_, 1, _, rfl, Nat.le_refl _, heap_alloc_new w _, Nat.le_refl _, by unfold maxLen; omega, rfl, rfl⟩⟩
  have hC0 : Chg Non w (w.alloc (.cells #[.string ⟨#[]⟩, .int .i64 0, .slice none 0 0, .int .i64 0, .int .i64 100, .int .i64 0, .int .i64 0, .slice none 0 0] 32)) := (Chg.refl _ _).alloc _
  go_enter Try.func8, Try.ntmps8
  go_wp2_with fail
  go_loopw [3, 4] (RelE w n) (fun _ i _ => n - (intOf i).toNat)
  case atStart => exact ⟨0, _, 1, none, 0, Nat.zero_le _, rfl, rfl, hE0, OwnR.nil _ _ _, hC0⟩
  case round =>
    clear hE0 hC0
    obtain ⟨k, g, c, A, ac, hk, rfl, rfl, hE, hN, hC⟩ := hrel
    by_cases hlt : k < n
    · have c7 : wr.cell? ⟨g, 7, none⟩ = some (.slice A k ac) := by
        have := hE.cellN (K := rkE) entC_len (k := 0) (x := headE A ac k k) rfl (j := 7) (u := .slice A k ac) rfl
        simpa using this
      have hgl : g < wr.heap.size := (hE.lt (g := g) rfl).2
      have hcs := hC.size
      have q := conv1 (k := k) (by omega)
      have b1 : (0 : Int) ≤ (k : Int) := by omega
      have b2 : (k : Int) ≤ 16 := by omega
      have HE := Lib.hid hE
      have HN := Lib.hid hN
      clear hE hN
      go_wp2_with (first
        | (at_builtin; refine appR1s (K := rkN) rfl (.tmp 17) (.tmp 19) rfl HN.out rfl (cs := #[.int .i64 (k : Int)]) rfl rfl one_int ?_ ?_ ?_; (next => omega); (next => omega); intro A2 c2 w2 hN2 hc2 hb2; have hE2 := HE.out.chg hc2 (fun b hb e => HN.out.apart2 HE.out (by decide) b e hb); have hE3 : OwnR rkE (w2.setCell ⟨g, 7, none⟩ (.slice A2 (k + 1) c2)) w.heap.size (.slice (some ⟨g, 0, none⟩) (k + 1) c) (k + 1) (evs (headE A2 c2 (k + 1) (k + 1) :: (List.range k).map kidE)) := OwnR.putN (K := rkE) entC_len hE2 (k := 0) (x := headE A ac k k) (headE A2 c2 (k + 1) (k + 1)) rfl (j := 7) (u := .slice A2 (k + 1) c2) (by decide) rfl; have f7 := hE2.frozen 7; have c72 : w2.cell? ⟨g, 7, none⟩ = some (.slice A k ac) := hc2.cell c7 (fun e => HN.out.apart2 HE.out (by decide) g e rfl); have hs2 := hc2.size; have HE3 := Lib.hid hE3; have HN2 := Lib.hid hN2; clear hE3 hN2 hE2)
        | (at_builtin; refine appR1s (K := rkE) rfl (.tmp 23) (.tmp 31) rfl (HE3.out.alloc (.cells #[.int .u8 (k : Int)] 5)) rfl (cs := #[.string (one k), .int .i64 0, .slice none 0 0, .int .i64 0, .int .i64 k, .int .i64 0, .int .i64 0, .slice none 0 0]) rfl (show Value.slice (some ⟨w2.heap.size + 1, 0, none⟩) 1 1 = .slice (some ⟨((w2.setCell ⟨g, 7, none⟩ (.slice A2 (k + 1) c2)).alloc (.cells #[.int .u8 (k : Int)] 5)).heap.size, 0, none⟩) 1 1 by simp [World.setCell]) (entC_one (kidE k)) ?_ ?_ ?_; (next => omega); (next => simp [World.setCell]; omega); intro A6 c6 w6 hE6 hc6 hb6; obtain ⟨g6, cc6, e6, _⟩ := hE6.form (by omega); injection e6 with e61 e62 e63; subst e61 e63))
      have hE7 : OwnR rkE w6 w.heap.size (.slice (some ⟨g6, 0, none⟩) (k + 1 + 1) c6) (k + 1 + 1) (evs (tree A2 c2 (k + 1) (k + 1))) := by
        have e : tree A2 c2 (k + 1) (k + 1) = (headE A2 c2 (k + 1) (k + 1) :: (List.range k).map kidE) ++ [kidE k] := by simp [tree, List.range_succ]
        rw [e, evs_snoc]
        exact hE6
      have hgne : ∀ b, (Value.slice A2 (k + 1) c2).ownBlock = some b → b ≠ g := fun b hb e => by
        subst e
        rcases hb2 b hb with h | h
        · exact HN.out.apart2 HE.out (by decide) b h rfl
        · omega
      have hN7 : OwnR rkN w6 w.heap.size (.slice A2 (k + 1) c2) (k + 1) (iv (rng (k + 1))) := by
        rw [rng_succ, iv_app]
        have h1 := HN2.out.chg ((Chg.refl (fun b => b = g) w2).set1 7 (.slice A2 (k + 1) c2)) hgne
        exact (h1.alloc _).chg hc6 (fun b hb e => hgne b hb (by have e : some g = some b := e; exact (Option.some.inj e).symm))
      have hC7 : Chg Non w w6 := by
        have h1 : Chg Non w w2 := hC.trans2 hc2 (fun b e => .inr (HN.out.lt e).1)
        have h2 := (h1.setCell (p := ⟨g, 7, none⟩) (.inr (HE.out.lt (g := g) rfl).1) (.slice A2 (k + 1) c2)).alloc (.cells #[.int .u8 (k : Int)] 5)
        exact h2.trans2 hc6 (fun b e => .inr (by have e : some g = some b := e; rw [← Option.some.inj e]; exact (HE.out.lt (g := g) rfl).1))
      have hrel : RelE w n (.slice (some ⟨g6, 0, none⟩) (k + 1 + 1) c6) (.int .i64 ((k + 1 : Nat) : Int)) w6 := ⟨k + 1, g6, c6, A2, c2, by omega, rfl, rfl, hE7, hN7, hC7⟩
      have Hrel := Lib.hid hrel
      clear hrel hC7 hN7 hE7 hE6 hc6 hb6 hc2 hb2 q c7 c72 f7
      go_wp2_with fail
      go_roundw
      case rel => exact Hrel.out
      case measure => simp [intOf]; omega
    · obtain rfl : k = n := by omega
      go_wp2_with fail
      go_ret
      exact ⟨g, c, A, ac, rfl, hE, hN, hC⟩
end Go.Proofs.Yteinbdifncdaiaa
