/-
  trace: Check.
  gleanerref14: find, committed.
-/
import Derived.Test.YteinbdifncdaiaaTdTrace
import Derived.Test.YteinbdifncdaiaaTdRefKid
import Derived.Test.YteinbdifncdaiaaTdOwn
import Derived.Test.YteinbdifncdaiaaTdRegionM
namespace Go.Proofs.Yteinbdifncdaiaa
open Go.RowKit
set_option linter.unusedVariables false
set_option linter.unusedSimpArgs false

theorem neq_res (a b c d : Int) (w : World) : (binOp .neq 30 (.agg #[.int .i64 a, .int .i64 b]) (.agg #[.int .i64 c, .int .i64 d])).run Try.prog w = .ok (.bool (!(decide (a = c) && decide (b = d)))) w := by
  by_cases h1 : a = c
  · subst h1
    by_cases h2 : b = d
    · subst h2
      go_simp
    · have e2 : (b == d) = false := beq_eq_false_iff_ne.2 h2
      simp only [h2]
      go_simp
      try simp [e2]
  · have e1 : (a == c) = false := beq_eq_false_iff_ne.2 h1
    simp only [h1]
    go_simp
    try simp [e1]

theorem entF_some {E : List Ent} {a : ByteArray} {x : Ent} (h : oneOf E a = some x) : entF E a = some (entV x) := by unfold entF; rw [h]; rfl
theorem entF_none {E : List Ent} {a : ByteArray} (h : oneOf E a = none) : entF E a = none := by unfold entF; rw [h]; rfl
/-- What Check answers. -/
def CheckPost (w : World) (E : List Ent) (l : List Cm) (e : Ending) (w2 : World) : Prop :=
  e = .returned (.tuple #[.int .i64 (chkP E l).1, .bool (chkP E l).2]) ∧ Chg Non w w2
/-- The rounds of Check. -/
def RelC (w : World) (gO gA m : Nat) (E : List Ent) (l : List Cm) (i : Value) (wr : World) : Prop :=
  ∃ k nA : Nat, k ≤ m ∧ i = .int .i64 k ∧ nA ≤ k ∧ Hid (∀ j, j < k → fineAt E l j = true) ∧ (∃ nO, Mp idKey wr gO nO (entF E)) ∧ Mp idKey wr gA nA (inF (inB (ids (l.take k)))) ∧ Chg Non w wr

set_option maxRecDepth 100000 in
set_option maxHeartbeats 4000000 in
theorem check_any (w : World) (A : Option Addr) (n c : Nat) (E : List Ent) (B : Option Addr) (m d : Nat) (l : List Cm) (hE : EntRow w A n E) (hl : Rds w 3 B m (cv l)) (hn : n ≤ 1000000) (hm : m ≤ 1000000) (hid : ∀ c ∈ l, c.1.size ≤ maxLen) :
    Calls Try.prog 9 #[.slice A n c, .slice B m d] w (CheckPost w E l) := by
  have hmm := @run_makeMap Try.prog
  have Hrow := Lib.hid hl
  have Hlen := Lib.hid (flat_eq cellC_len (by decide) hl)
  have Hid2 := Lib.hid hid
  have HE := Lib.hid hE
  have hF := first_any w A n c E hE hn
  clear hl hid hE
  go_enter Try.func9, Try.ntmps9
  go_wp2_with fail
  refine hF.mono ?_
  rintro e w1 ⟨gO, nO, rfl, hO, hg1, hC1⟩
  have hOa := hO.alloc (.map #[] 0)
  have hA := (Mp.made idKey w1).congr (f2 := inF (inB (ids (l.take 0)))) (fun a => rfl)
  have hC1a : Chg Non w (w1.alloc (.map #[] 0)) := hC1.alloc _
  have hgA : w.heap.size ≤ w1.heap.size := hC1.size
  have hgOA : gO ≠ w1.heap.size := by have := hO.lt; omega
  clear hF hO hC1
  go_wp2_with fail
  generalize w1.heap.size = gA at hA hgA hgOA ⊢
  go_loopw [17] (RelC w gO gA m E l) (fun i _ => m - (intOf i).toNat)
  case atStart => exact ⟨0, 0, Nat.zero_le _, rfl, Nat.le_refl _, (fun j h => by omega), ⟨nO, hOa⟩, hA, hC1a⟩
  case round =>
    clear hOa hA hC1a
    obtain ⟨k, nA, hk, rfl, hnA, hgood, ⟨nO2, hO⟩, hA, hC⟩ := hrel
    by_cases hlt : k < m
    · obtain ⟨ad, ⟨s, x, y⟩, rfl, hx, hc0, hc⟩ := Hrow.out.getN cellC_len (by decide) hlt
      have a0 : wr.cell? (ad.add (k * 3)) = some (.string s) := hC.cell (hc0 _ rfl) id
      have a1 : wr.cell? ⟨(ad.add (k * 3)).block, (ad.add (k * 3)).off + 1, none⟩ = some (.int .i64 x) := hC.cell (hc 0 _ rfl) id
      have a2 : wr.cell? ⟨(ad.add (k * 3)).block, (ad.add (k * 3)).off + 2, none⟩ = some (.int .i64 y) := hC.cell (hc 1 _ rfl) id
      have hsz : s.size ≤ maxLen := Hid2.out _ (List.mem_of_getElem? hx)
      have b1 : (0 : Int) ≤ (k : Int) := by omega
      have b2 : (k : Int) < m := by omega
      have hOB := hO.alloc (.cells #[.string s, .int .i64 x, .int .i64 y] 34)
      have hAB := hA.alloc (.cells #[.string s, .int .i64 x, .int .i64 y] 34)
      have hAl := hA.lt
      have hOl := hO.lt
      have hfa := fineAt_of (E := E) hx
      have hst : ids (l.take (k + 1)) = ids (l.take k) ++ [s] := by rw [List.take_add_one, hx]; exact ids_snoc _ _
      have hkl : k < l.length := (List.getElem?_eq_some_iff.1 hx).1
      have hbad : fine E (ids (l.take k)) (s, x, y) = false → chkP E l = ((k : Int), false) := fun h => chk_some hkl hgood.out (by rw [hfa]; exact h)
      have hgo : fine E (ids (l.take k)) (s, x, y) = true → ∀ j, j < k + 1 → fineAt E l j = true := fun h j hj => by
        rcases Nat.lt_or_ge j k with h2 | h2
        · exact hgood.out j h2
        · obtain rfl : j = k := by omega
          rw [hfa]; exact h
      have Hbad := Lib.hid hbad
      have Hgo := Lib.hid hgo
      have Hst := Lib.hid hst
      clear hfa hst hbad hgo hgood hx hc0 hc
      cases ho : oneOf E s with
      | none =>
        have q1 := hOB.look_okS Try.underlying55 (z := .agg #[.string ⟨#[]⟩, .int .i64 0, .slice none 0 0, .int .i64 0, .int .i64 0, .int .i64 0, .int .i64 0, .slice none 0 0]) (by kernel_rfl) hsz (entF_none ho)
        simp only [Option.getD_none, Option.isSome_none] at q1
        have hres : fine E (ids (l.take k)) (s, x, y) = false := by unfold fine; simp only; rw [ho]
        have Hres := Lib.hid (Hbad.out hres)
        clear ho hres hOB hAB hO hA
        go_wp2_with fail
        go_ret2
        exact ⟨by rw [Hres.out]; rfl, (hC.alloc _).alloc _⟩
      | some e0 =>
        have q1 := hOB.look_okS Try.underlying55 (z := .agg #[.string ⟨#[]⟩, .int .i64 0, .slice none 0 0, .int .i64 0, .int .i64 0, .int .i64 0, .int .i64 0, .slice none 0 0]) (by kernel_rfl) hsz (entF_some ho)
        simp only [Option.getD_some, Option.isSome_some, entV] at q1
        have hfe : fine E (ids (l.take k)) (s, x, y) = (decide (e0.err = x) && decide (e0.val = y) && !inB (ids (l.take k)) s && goes e0 (ids (l.take k))) := by unfold fine; simp only; rw [ho]
        have hmem := (oneOf_mem ho).1
        have hq := neq_res e0.err e0.val x y
        have hA2 := hAB.alloc (.cells #[.string e0.id, .int .i64 e0.fn, .slice e0.gA e0.gn e0.gc, .int .i64 e0.err, .int .i64 e0.val, .int .i64 e0.steps, .int .i64 e0.kids, .slice e0.aA e0.an e0.ac] 32)
        have hO2 := hOB.alloc (.cells #[.string e0.id, .int .i64 e0.fn, .slice e0.gA e0.gn e0.gc, .int .i64 e0.err, .int .i64 e0.val, .int .i64 e0.steps, .int .i64 e0.kids, .slice e0.aA e0.an e0.ac] 32)
        have q2 := hA2.lookS Try.underlying57 (z := .bool false) (by kernel_rfl) hsz (u := inF (inB (ids (l.take k))) s) rfl
        rw [inF_get] at q2
        by_cases hr : e0.err = x ∧ e0.val = y
        · have hq1 : (!(decide (e0.err = x) && decide (e0.val = y))) = false := by simp [hr]
          simp only [hq1] at hq
          have hfe : fine E (ids (l.take k)) (s, x, y) = (!inB (ids (l.take k)) s && goes e0 (ids (l.take k))) := by rw [hfe]; simp [hr]
          cases hi : inB (ids (l.take k)) s with
          | true =>
            rw [hi] at q2 hfe
            have Hres := Lib.hid (Hbad.out (by rw [hfe]; rfl))
            clear ho hfe hOB hAB hO hA hA2 hO2 hi hr hq1 hmem
            go_wp2_with fail
            go_ret2
            exact ⟨by rw [Hres.out]; rfl, (hC.alloc _).alloc _⟩
          | false =>
            rw [hi] at q2 hfe
            have hgs := after_any _ gA nA e0 _ hA2 (by
              obtain ⟨h1, h2⟩ := HE.out.ok e0 hmem
              exact ⟨h1.non ((hC.alloc _).alloc _), h2⟩)
            unfold entV at hgs
            have hfe : fine E (ids (l.take k)) (s, x, y) = goes e0 (ids (l.take k)) := by rw [hfe]; rfl
            have Hi := Lib.hid (show inB (ids (l.take k)) s = false from hi)
            have HA2 := Lib.hid hA2
            have HO2 := Lib.hid hO2
            cases hg : goes e0 (ids (l.take k)) with
            | false =>
              rw [hg] at hgs hfe
              have Hres := Lib.hid (Hbad.out hfe)
              clear ho hfe hOB hAB hO hA hA2 hO2 hi hr hq1 hmem hg
              go_wp2_with fail
              refine hgs.mono ?_
              rintro e w3 ⟨rfl, hc3⟩
              go_wp2_with fail
              go_ret2
              exact ⟨by rw [Hres.out]; rfl, ((hC.alloc _).alloc _).non hc3⟩
            | true =>
              rw [hg] at hgs hfe
              have Hres := Lib.hid (Hgo.out hfe)
              have hbx := (Blk.new wr 34 #[.string s, .int .i64 x, .int .i64 y]).alloc (.cells #[.string e0.id, .int .i64 e0.fn, .slice e0.gA e0.gn e0.gc, .int .i64 e0.err, .int .i64 e0.val, .int .i64 e0.steps, .int .i64 e0.kids, .slice e0.aA e0.an e0.ac] 32)
              clear ho hfe hOB hAB hO hA hA2 hO2 hi hr hq1 hmem hg
              go_wp2_with fail
              refine hgs.mono ?_
              rintro e w3 ⟨rfl, hc3⟩
              have hA3 := HA2.out.non hc3
              have hO3 := HO2.out.non hc3
              have hbx3 := hbx.non hc3
              have x0 := hbx3.cell 0
              simp only [List.getElem?_toArray, List.getElem?_cons_zero] at x0
              have hC3 := ((hC.alloc _).alloc _).non hc3
              clear hc3 hbx q1 q2 hgs
              go_wp2_with (at_mapUpdate; refine wp_store_Mp (K := idKey) rfl (.tmp 51) (.tmp 53) (.const (.bool true)) 57 rfl hA3 Try.underlying57 (by unfold maxLen; omega) rfl (b := s) hsz rfl (u := .bool true) rfl ?_; intro w6 hm6 hc6)
              have hno : (inF (inB (ids (l.take k))) s).isSome = false := by rw [inF_some]; exact Hi.out
              rw [hno] at hm6
              have hm7 := hm6.congr (f2 := inF (inB (ids (l.take (k + 1))))) (fun a => by
                rw [inF_put, Hst.out]
                congr 1
                funext b
                rw [inB_snoc])
              have hO6 := hO3.chg hc6 hgOA
              have hC6 : Chg Non w w6 := hC3.trans2 hc6 (fun b e => .inr (by have e : b = gA := e; omega))
              have hrel : RelC w gO gA m E l (.int .i64 ((k + 1 : Nat) : Int)) w6 := ⟨k + 1, nA + 1, by omega, rfl, by omega, Hres.out, ⟨_, hO6⟩, hm7, hC6⟩
              have Hrel := Lib.hid hrel
              clear hrel hC6 hO6 hm7 hm6 hc6 hA3 hO3 hC3 hno x0
              go_roundw
              case rel => exact Hrel.out
              case measure => simp [intOf]; omega
        · have hq1 : (!(decide (e0.err = x) && decide (e0.val = y))) = true := by
            by_cases h1 : e0.err = x
            · by_cases h2 : e0.val = y
              · exact (hr ⟨h1, h2⟩).elim
              · simp [h2]
            · simp [h1]
          simp only [hq1] at hq
          have hres : fine E (ids (l.take k)) (s, x, y) = false := by
            rw [hfe]
            have : (decide (e0.err = x) && decide (e0.val = y)) = false := (Bool.not_eq_true' _).mp hq1
            rw [this]; rfl
          have Hres := Lib.hid (Hbad.out hres)
          clear ho hfe hOB hAB hO hA hA2 hO2 hr hq1 hmem hres q2
          go_wp2_with fail
          go_ret2
          exact ⟨by rw [Hres.out]; rfl, (hC.alloc _).alloc _⟩
    · have hres : chkP E l = (0, true) := chk_none (fun j hj => hgood.out j (by have := Hlen.out; omega))
      have Hres := Lib.hid hres
      clear hres hgood hA hO
      go_wp2_with fail
      go_ret2
      exact ⟨by rw [Hres.out]; rfl, hC⟩

theorem flat_take {α : Type} {f : α → List Value} {m : Nat} (hf : ∀ x, (f x).length = m) : ∀ (L : List α) (k : Nat), (L.flatMap f).take (k * m) = (L.take k).flatMap f
  | [], k => by simp
  | x :: L, 0 => by simp
  | x :: L, k + 1 => by
    rw [List.flatMap_cons, List.take_succ_cons, List.flatMap_cons, Nat.succ_mul, Nat.add_comm, ← hf x, List.take_length_add_append, hf x, flat_take hf L k]
theorem oneOf_at {E : List Ent} {k : Nat} {x : Ent} {s : ByteArray} (hx : E[k]? = some x) (hno : oneOf (E.take k) s = none) (he : x.id = s) : oneOf E s = some x := by
  obtain ⟨hk, e⟩ := List.getElem?_eq_some_iff.1 hx
  have hE : E.take k ++ x :: E.drop (k + 1) = E := by rw [← e, ← List.drop_eq_getElem_cons hk, List.take_append_drop]
  unfold oneOf at *
  rw [← hE, List.find?_append, hno, List.find?_cons]
  simp [he]
/-- What find answers. -/
def FindPost (w : World) (E : List Ent) (s : ByteArray) (e : Ending) (w2 : World) : Prop :=
  ((∃ k x, e = .returned (.int .i64 ((k : Nat) : Int)) ∧ oneOf E s = some x ∧ E[k]? = some x) ∨ (e = .returned (.int .i64 (-1)) ∧ oneOf E s = none)) ∧ w = w2
set_option maxRecDepth 100000 in
set_option maxHeartbeats 1000000 in
theorem refFind_any (w : World) (A : Option Addr) (n c : Nat) (E : List Ent) (s : ByteArray) (hr : Rds w 8 A n (evs E)) (hn : n ≤ 1000000) :
    Calls Try.prog 30 #[.slice A n c, .string s] w (FindPost w E s) := by
  have Hl := Lib.hid (flat_eq entC_len (by decide) hr)
  have Hr := Lib.hid hr
  clear hr
  go_enter Try.func30, Try.ntmps30
  go_wp2_with fail
  go_loop [5] (fun i => ∃ k : Nat, k ≤ n ∧ i = .int .i64 k ∧ Hid (oneOf (E.take k) s = none)) (fun i => n - (intOf i).toNat)
  case atStart => exact ⟨0, Nat.zero_le _, rfl, rfl⟩
  case round =>
    obtain ⟨k, hk, rfl, hno⟩ := hrel
    by_cases hlt : k < n
    · obtain ⟨ad, x, rfl, hx, z0, _⟩ := Hr.out.getE hlt
      have i1 : (0 : Int) ≤ (k : Int) := by omega
      have i2 : (k : Int) < n := by omega
      by_cases he : x.id = s
      · have hyes : Hid (FindPost w E s (.returned (.int .i64 (k : Int))) w) := ⟨.inl ⟨k, x, rfl, oneOf_at hx hno.out he, hx⟩, rfl⟩
        have heq : (x.id.toList == s.toList) = true := by rw [he]; exact beq_self_eq_true _
        clear hx hno he
        go_wp2_with fail
        go_ret
        exact hyes.out
      · have heq : (x.id.toList == s.toList) = false := str_ne he
        have hno2 : Hid (oneOf (E.take (k + 1)) s = none) := by
          show oneOf _ _ = none
          rw [List.take_add_one, hx]
          show oneOf (E.take k ++ [x]) s = none
          rw [oneOf_snoc_out hno.out, if_neg he]
        clear hx hno he
        go_wp2_with fail
        go_round
        case rel => exact ⟨k + 1, by omega, by go_num, hno2⟩
        case measure => simp [intOf]; omega
    · have hyes : Hid (FindPost w E s (.returned (.int .i64 (-1))) w) := by
        refine ⟨.inr ⟨rfl, ?_⟩, rfl⟩
        have h := hno.out
        rw [List.take_of_length_le (by have := Hl.out; omega)] at h
        exact h
      clear hno
      go_wp2_with fail
      go_ret
      exact hyes.out
set_option maxRecDepth 100000 in
set_option maxHeartbeats 1000000 in
theorem refCommitted_any (w : World) (B : Option Addr) (m d : Nat) (l : List Cm) (s : ByteArray) (hr : Rds w 3 B m (cv l)) (hm : m ≤ 1000000) :
    Calls Try.prog 32 #[.slice B m d, .string s] w fun e w2 => e = .returned (.bool (inB (ids l) s)) ∧ w = w2 := by
  have Hl := Lib.hid (flat_eq cellC_len (by decide) hr)
  have Hr := Lib.hid hr
  clear hr
  go_enter Try.func32, Try.ntmps32
  go_wp2_with fail
  go_loop [5] (fun i => ∃ k : Nat, k ≤ m ∧ i = .int .i64 k ∧ Hid (inB (ids (l.take k)) s = false)) (fun i => m - (intOf i).toNat)
  case atStart => exact ⟨0, Nat.zero_le _, rfl, rfl⟩
  case round =>
    obtain ⟨k, hk, rfl, hno⟩ := hrel
    by_cases hlt : k < m
    · obtain ⟨ad, ⟨a, b, e⟩, rfl, hx, hc0, hc⟩ := Hr.out.getN cellC_len (by decide) hlt
      have z0 : w.cell? (ad.add (k * 3)) = some (.string a) := hc0 _ rfl
      have i1 : (0 : Int) ≤ (k : Int) := by omega
      have i2 : (k : Int) < m := by omega
      have hmem := List.mem_of_getElem? hx
      have hst : ids (l.take (k + 1)) = ids (l.take k) ++ [a] := by rw [List.take_add_one, hx]; exact ids_snoc _ _
      by_cases he : a = s
      · have hyes : Hid (inB (ids l) s = true) := by
          show inB _ _ = true
          rw [inB_true]
          unfold ids
          exact List.mem_map.2 ⟨_, hmem, he⟩
        have heq : (a.toList == s.toList) = true := by rw [he]; exact beq_self_eq_true _
        clear hx hno he hc0 hc hmem hst
        go_wp2_with fail
        go_ret
        exact ⟨by rw [hyes.out]; rfl, rfl⟩
      · have heq : (a.toList == s.toList) = false := str_ne he
        have hno2 : Hid (inB (ids (l.take (k + 1))) s = false) := by
          show inB _ _ = false
          rw [hst, inB_snoc, hno.out]
          simp [he]
        clear hx hno he hc0 hc hmem hst
        go_wp2_with fail
        go_round
        case rel => exact ⟨k + 1, by omega, by go_num, hno2⟩
        case measure => simp [intOf]; omega
    · have hyes : Hid (inB (ids l) s = false) := by
        have h := hno.out
        rw [List.take_of_length_le (by have := Hl.out; omega)] at h
        exact h
      clear hno
      go_wp2_with fail
      go_ret
      exact ⟨by rw [hyes.out]; rfl, rfl⟩
end Go.Proofs.Yteinbdifncdaiaa
