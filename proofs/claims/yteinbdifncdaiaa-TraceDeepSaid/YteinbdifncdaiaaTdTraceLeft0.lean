/-
  trace: Left, Whole; gleanerlaw29.alive.
-/
import Derived.Test.YteinbdifncdaiaaTdTraceCheck
import Derived.Test.YteinbdifncdaiaaTdIdentSort
import Derived.Test.YteinbdifncdaiaaTdRow
namespace Go.Proofs.Yteinbdifncdaiaa
open Go.RowKit
set_option linter.unusedVariables false
set_option linter.unusedSimpArgs false

theorem sv_snoc (L : List ByteArray) (x : ByteArray) : sv (L ++ [x]) = sv L ++ [.string x] := by simp [sv]
/-- What Left answers. -/
def LeftPost (w : World) (E : List Ent) (l : List Cm) (e : Ending) (w2 : World) : Prop :=
  ∃ A m c, e = .returned (.slice A m c) ∧ m = (risenS (leftOf E l)).length ∧ OwnR rkI w2 w.heap.size (.slice A m c) m (sv (risenS (leftOf E l))) ∧ Chg Non w w2
/-- The rounds of Left. -/
def RelL1 (w : World) (gT m : Nat) (l : List Cm) (i : Value) (wr : World) : Prop :=
  ∃ k nT : Nat, k ≤ m ∧ i = .int .i64 k ∧ nT ≤ k ∧ Mp idKey wr gT nT (inF (inB (ids (l.take k)))) ∧ Chg Non w wr
def RelL2 (w : World) (gT n : Nat) (E : List Ent) (l : List Cm) (v i : Value) (wr : World) : Prop :=
  ∃ k q : Nat, k ≤ n ∧ i = .int .i64 k ∧ q ≤ k ∧ OwnR rkI wr w.heap.size v q (sv (leftOf (E.take k) l)) ∧ (∃ nT, Mp idKey wr gT nT (inF (inB (ids l)))) ∧ Chg Non w wr

set_option maxRecDepth 100000 in
set_option maxHeartbeats 4000000 in
theorem left_any (w : World) (A : Option Addr) (n c : Nat) (E : List Ent) (B : Option Addr) (m d : Nat) (l : List Cm) (hE : EntRow w A n E) (hl : Rds w 3 B m (cv l)) (hn : n ≤ 1000000) (hm : m ≤ 1000000) (hid : ∀ c ∈ l, c.1.size ≤ maxLen) :
    Calls Try.prog 12 #[.slice A n c, .slice B m d] w (LeftPost w E l) := by
  have hmm := @run_makeMap Try.prog
  have Hrow := Lib.hid hl
  have Hlen := Lib.hid (flat_eq cellC_len (by decide) hl)
  have Hid2 := Lib.hid hid
  have HE := Lib.hid hE
  have HElen := Lib.hid hE.len
  have hT := (Mp.made idKey w).congr (f2 := inF (inB (ids (l.take 0)))) (fun a => rfl)
  have hC0 : Chg Non w (w.alloc (.map #[] 0)) := (Chg.refl _ _).alloc _
  clear hl hid hE
  go_enter Try.func12, Try.ntmps12
  go_wp2_with fail
  go_loopw [14] (RelL1 w w.heap.size m l) (fun i _ => m - (intOf i).toNat)
  case atStart => exact ⟨0, 0, Nat.zero_le _, rfl, Nat.le_refl _, hT, hC0⟩
  case round =>
    clear hT hC0
    obtain ⟨k, nT, hk, rfl, hnT, hT, hC⟩ := hrel
    by_cases hlt : k < m
    · obtain ⟨ad, ⟨s, x, y⟩, rfl, hx, hc0, hc⟩ := Hrow.out.getN cellC_len (by decide) hlt
      have a0 : wr.cell? (ad.add (k * 3)) = some (.string s) := hC.cell (hc0 _ rfl) id
      have a1 : wr.cell? ⟨(ad.add (k * 3)).block, (ad.add (k * 3)).off + 1, none⟩ = some (.int .i64 x) := hC.cell (hc 0 _ rfl) id
      have a2 : wr.cell? ⟨(ad.add (k * 3)).block, (ad.add (k * 3)).off + 2, none⟩ = some (.int .i64 y) := hC.cell (hc 1 _ rfl) id
      have hsz : s.size ≤ maxLen := Hid2.out _ (List.mem_of_getElem? hx)
      have b1 : (0 : Int) ≤ (k : Int) := by omega
      have b2 : (k : Int) < m := by omega
      have hTB := hT.alloc (.cells #[.string s, .int .i64 x, .int .i64 y] 34)
      have hst : ids (l.take (k + 1)) = ids (l.take k) ++ [s] := by rw [List.take_add_one, hx]; exact ids_snoc _ _
      have Hst := Lib.hid hst
      clear hst hx hc0 hc hT
      go_wp2_with (at_mapUpdate; refine wp_store_Mp (K := idKey) rfl (.tmp 18) (.tmp 20) (.const (.bool true)) 57 rfl hTB Try.underlying57 (by unfold maxLen; omega) rfl (b := s) hsz rfl (u := .bool true) rfl ?_; intro w6 hm6 hc6)
      have hm7 := hm6.congr (f2 := inF (inB (ids (l.take (k + 1))))) (fun a => by
        rw [inF_put, Hst.out]
        congr 1
        funext b
        rw [inB_snoc])
      have hC6 : Chg Non w w6 := (hC.alloc _).trans2 hc6 (fun b e => .inr (by have e : b = w.heap.size := e; omega))
      have hrel : RelL1 w w.heap.size m l (.int .i64 ((k + 1 : Nat) : Int)) w6 := ⟨k + 1, _, by omega, rfl, by split <;> omega, hm7, hC6⟩
      have Hrel := Lib.hid hrel
      clear hrel hC6 hm7 hm6 hc6
      go_roundw
      case rel => exact Hrel.out
      case measure => simp [intOf]; omega
    · have hst : l.take k = l := List.take_of_length_le (by have := Hlen.out; omega)
      rw [hst] at hT
      clear hst
      go_wp2_with fail
      obtain ⟨wo, rfl⟩ : ∃ wo : World, wo = wr := ⟨_, rfl⟩
      go_loopw [8, 24] (RelL2 w w.heap.size n E l) (fun _ i _ => n - (intOf i).toNat)
      case atStart => exact ⟨0, 0, Nat.zero_le _, rfl, Nat.le_refl _, OwnR.nil _ _ _, ⟨_, hT⟩, hC⟩
      case round =>
        clear hT hC
        obtain ⟨k, q, hk, rfl, hq, hO, ⟨nT, hT⟩, hC⟩ := hrel
        by_cases hlt : k < n
        · obtain ⟨ad, x, rfl, hx, a0, a1, a2, a3, a4, a5, a6, a7⟩ := HE.out.row.getE hlt
          have a0 := hC.cell a0 id
          have a1 := hC.cell a1 id
          have a2 := hC.cell a2 id
          have a3 := hC.cell a3 id
          have a4 := hC.cell a4 id
          have a5 := hC.cell a5 id
          have a6 := hC.cell a6 id
          have a7 := hC.cell a7 id
          have hsz := (HE.out.ok x (List.mem_of_getElem? hx)).2.2.1
          have b1 : (0 : Int) ≤ (k : Int) := by omega
          have b2 : (k : Int) < n := by omega
          have hTB := hT.alloc (.cells #[.string x.id, .int .i64 x.fn, .slice x.gA x.gn x.gc, .int .i64 x.err, .int .i64 x.val, .int .i64 x.steps, .int .i64 x.kids, .slice x.aA x.an x.ac] 32)
          have hOB := hO.alloc (.cells #[.string x.id, .int .i64 x.fn, .slice x.gA x.gn x.gc, .int .i64 x.err, .int .i64 x.val, .int .i64 x.steps, .int .i64 x.kids, .slice x.aA x.an x.ac] 32)
          have hCB := hC.alloc (.cells #[.string x.id, .int .i64 x.fn, .slice x.gA x.gn x.gc, .int .i64 x.err, .int .i64 x.val, .int .i64 x.steps, .int .i64 x.kids, .slice x.aA x.an x.ac] 32)
          have q1 := hTB.lookS Try.underlying57 (z := .bool false) (by kernel_rfl) hsz (u := inF (inB (ids l)) x.id) rfl
          rw [inF_get] at q1
          have hst : leftOf (E.take (k + 1)) l = if inB (ids l) x.id then leftOf (E.take k) l else leftOf (E.take k) l ++ [x.id] := by rw [List.take_add_one, hx]; exact leftOf_snoc _ _ _
          have hql := hO.len
          have hsl := leftOf_len (E.take k) l
          have hcs := hC.size
          cases hi : inB (ids l) x.id with
          | true =>
            rw [hi] at q1 hst
            rw [if_pos rfl] at hst
            have hrel : RelL2 w w.heap.size n E l u8 (.int .i64 ((k + 1 : Nat) : Int)) (wr.alloc (.cells #[.string x.id, .int .i64 x.fn, .slice x.gA x.gn x.gc, .int .i64 x.err, .int .i64 x.val, .int .i64 x.steps, .int .i64 x.kids, .slice x.aA x.an x.ac] 32)) := ⟨k + 1, q, by omega, rfl, by omega, by rw [hst]; exact hOB, ⟨nT, hTB⟩, hCB⟩
            have Hrel := Lib.hid hrel
            clear hst hrel hOB hTB hO hT hx hi hql hsl hCB
            go_wp2_with fail
            go_roundw
            case rel => exact Hrel.out
            case measure => simp [intOf]; omega
          | false =>
            rw [hi] at q1 hst
            rw [if_neg Bool.false_ne_true] at hst
            have Hst := Lib.hid hst
            have HTB := Lib.hid hTB
            clear hst hTB hO hT hx hi hql hsl
            go_wp2_with (at_builtin; refine appR1s (K := rkI) rfl (.tmp 33) (.tmp 36) rfl hOB rfl (cs := #[.string x.id]) rfl (show Value.slice (some ⟨wr.heap.size + 1, 0, none⟩) 1 1 = .slice (some ⟨(wr.alloc (.cells #[.string x.id, .int .i64 x.fn, .slice x.gA x.gn x.gc, .int .i64 x.err, .int .i64 x.val, .int .i64 x.steps, .int .i64 x.kids, .slice x.aA x.an x.ac] 32)).heap.size, 0, none⟩) 1 1 by simp) (svI_one [x.id]) ?_ ?_ ?_; (next => omega); (next => simp; omega); intro A6 c6 w6 hO6 hc6 hb6)
            have hC6 : Chg Non w w6 := hCB.trans2 hc6 (fun b e => .inr (hOB.lt e).1)
            have hT6 := HTB.out.chg hc6 (fun e => by
              rcases hOB.2 with ⟨e2, _⟩ | ⟨g2, cap, cur, e2, _, hh, _⟩
              · rw [e2] at e; cases e
              · rw [e2] at e
                have e3 : g2 = w.heap.size := by simpa [Value.ownBlock] using e
                subst e3
                exact HTB.out.apart (t := rkI.e) (cs := cur) hh rfl)
            have hrel : RelL2 w w.heap.size n E l (.slice A6 (q + 1) c6) (.int .i64 ((k + 1 : Nat) : Int)) w6 := ⟨k + 1, q + 1, by omega, rfl, by omega, by rw [Hst.out, sv_snoc]; exact hO6, ⟨nT, hT6⟩, hC6⟩
            have Hrel := Lib.hid hrel
            clear hrel hO6 hc6 hb6 hC6 hT6
            go_wp2_with fail
            go_roundw
            case rel => exact Hrel.out
            case measure => simp [intOf]; omega
        · have hst : E.take k = E := List.take_of_length_le (by have := HElen.out; omega)
          rw [hst] at hO
          clear hst
          obtain ⟨A8, c8, rfl, _, _, hr8, _⟩ := hO.open_
          have hsrt := identSort_any wr A8 q c8 (leftOf E l) hr8 (by omega)
          have hws := hC.size
          clear hr8 hO hT
          go_wp2_with fail
          refine hsrt.mono ?_
          rintro e w9 ⟨v, m9, rfl, hm9, hO9, hc9⟩
          obtain ⟨A9, c9, rfl, _⟩ := hO9.open_
          have Hm9 := Lib.hid hm9
          clear hm9 hsrt
          go_wp2_with fail
          go_ret
          exact ⟨A9, m9, c9, rfl, Hm9.out, hO9.mono hws, hC.non hc9⟩

/-- Are commits right, and all? -/
def wholeB (E : List Ent) (l : List Cm) : Bool := (chkP E l).2 && (leftOf E l).isEmpty
set_option maxRecDepth 100000 in
set_option maxHeartbeats 1000000 in
theorem whole_any (w : World) (A : Option Addr) (n c : Nat) (E : List Ent) (B : Option Addr) (m d : Nat) (l : List Cm) (hE : EntRow w A n E) (hl : Rds w 3 B m (cv l)) (hn : n ≤ 1000000) (hm : m ≤ 1000000) (hid : ∀ c ∈ l, c.1.size ≤ maxLen) :
    Calls Try.prog 10 #[.slice A n c, .slice B m d] w fun e w2 => e = .returned (.bool (wholeB E l)) ∧ Chg Non w w2 := by
  have hch := check_any w A n c E B m d l hE hl hn hm hid
  have HE := Lib.hid hE
  have HL := Lib.hid hl
  have HI := Lib.hid hid
  clear hE hl hid
  cases h2 : (chkP E l).2 with
  | false =>
    have Hw := Lib.hid (show wholeB E l = false by unfold wholeB; rw [h2]; rfl)
    have H2 := Lib.hid h2
    clear h2
    go_enter Try.func10, Try.ntmps10
    go_wp2_with fail
    refine hch.mono ?_
    rintro e w2 ⟨rfl, hc2⟩
    rw [H2.out]
    clear hch
    go_wp2_with fail
    go_ret
    exact ⟨by rw [Hw.out]; rfl, hc2⟩
  | true =>
    have Hw := Lib.hid (show wholeB E l = (leftOf E l).isEmpty by unfold wholeB; rw [h2]; rfl)
    have H2 := Lib.hid h2
    clear h2
    go_enter Try.func10, Try.ntmps10
    go_wp2_with fail
    refine hch.mono ?_
    rintro e w2 ⟨rfl, hc2⟩
    rw [H2.out]
    have hlf := left_any w2 A n c E B m d l (HE.out.non hc2) (HL.out.non hc2) hn hm HI.out
    clear hch
    go_wp2_with fail
    refine hlf.mono ?_
    rintro e w3 ⟨A3, m3, c3, rfl, hm3, hO3, hc3⟩
    have hC3 := hc2.non hc3
    have hz : ((m3 : Int) == 0) = (leftOf E l).isEmpty := by
      rw [hm3]
      cases hL : leftOf E l with
      | nil => rfl
      | cons x L =>
        have hx : x ∈ risenS (x :: L) := (risenS_spec _).2 x |>.2 (by simp)
        have : 0 < (risenS (x :: L)).length := List.length_pos_of_mem hx
        simp only [List.isEmpty_cons]
        rw [beq_eq_false_iff_ne]
        omega
    have hb3 : m3 ≤ 1000000 := by
      have h1 := hO3.open_
      obtain ⟨A4, c4, _, _⟩ := h1
      have h2 := risenS_le (leftOf E l)
      have h3 := leftOf_len E l
      have h4 := HE.out.len
      omega
    clear hm3 hO3 hc3 hlf
    cases hem : (leftOf E l).isEmpty with
    | true =>
      rw [hem] at hz
      have Hem := Lib.hid hem
      clear hem
      go_wp2_with fail
      go_ret
      exact ⟨by rw [Hw.out, Hem.out]; rfl, hC3⟩
    | false =>
      rw [hem] at hz
      have Hem := Lib.hid hem
      clear hem
      go_wp2_with fail
      go_ret
      exact ⟨by rw [Hw.out, Hem.out]; rfl, hC3⟩

theorem entRow_nil (w : World) : EntRow w none 0 [] := ⟨⟨rfl, fun h => by omega⟩, fun x hx => by cases hx⟩
theorem comRow_nil (w : World) : Rds w 3 none 0 (cv []) := ⟨rfl, fun h => by omega⟩
set_option maxRecDepth 100000 in
theorem trace_alive (w : World) : Calls Try.prog 7 #[] w fun e w2 => e = .returned (.bool true) ∧ Chg Non w w2 := by
  have hr := Rds.blockN (m := 1) (size := 3) (Blk.new w 34 #[.string ⟨#[]⟩, .int .i64 0, .int .i64 0]) rfl
  have h1 := check_any (w.alloc (.cells #[.string ⟨#[]⟩, .int .i64 0, .int .i64 0] 34)) none 0 0 [] (some ⟨w.heap.size, 0, none⟩) 1 1 [(⟨#[]⟩, 0, 0)] (entRow_nil _) hr (by omega) (by omega) (by intro c hc; simp at hc; subst hc; decide)
  have hC1 : Chg Non w (w.alloc (.cells #[.string ⟨#[]⟩, .int .i64 0, .int .i64 0] 34)) := (Chg.refl _ _).alloc _
  clear hr
  go_enter Try.func7, Try.ntmps7
  go_wp2_with fail
  refine h1.mono ?_
  rintro e w2 ⟨rfl, hc2⟩
  rw [show chkP [] [(⟨#[]⟩, 0, 0)] = (0, false) from chk_some (k := 0) (by decide) (fun j h => by omega) rfl]
  have hC2 := hC1.non hc2
  clear h1 hC1 hc2
  go_wp2_with fail
  refine (check_any w2 none 0 0 [] none 0 0 [] (entRow_nil _) (comRow_nil _) (by omega) (by omega) (fun c hc => by cases hc)).mono ?_
  rintro e w3 ⟨rfl, hc3⟩
  rw [show chkP [] [] = (0, true) from rfl]
  have hC3 := hC2.non hc3
  clear hC2 hc3
  go_wp2_with fail
  refine (whole_any w3 none 0 0 [] none 0 0 [] (entRow_nil _) (comRow_nil _) (by omega) (by omega) (fun c hc => by cases hc)).mono ?_
  rintro e w4 ⟨rfl, hc4⟩
  rw [show wholeB [] [] = true from rfl]
  have hC4 := hC3.non hc4
  go_wp2_with fail
  go_ret
  exact ⟨rfl, hC4⟩
end Go.Proofs.Yteinbdifncdaiaa
