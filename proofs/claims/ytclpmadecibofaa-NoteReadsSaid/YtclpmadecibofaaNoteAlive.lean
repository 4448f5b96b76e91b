/-
  What the laws of chapter 11 begin with: the document's example; notes as they come in; Big.
-/
import Derived.Test.YtclpmadecibofaaNoteReadW
import Derived.Test.YtclpmadecibofaaRdRows
namespace Go.Proofs.Ytclpmadecibofaa
open Go.ChangeShapes Go.WideShapes Go.ChangeAt Go.RowKit Go.Deep
set_option linter.unusedVariables false
set_option linter.unusedSimpArgs false

theorem Rd.len {P : Program} {w : World} {t : TypeId} {cs : List Value} {fs : Array Field} (ht : P.underlying t = some (.struct fs)) (h : Rd P w t cs) : cs.length = P.cellsOf t := by
  obtain ⟨H, enc, base, spare, held, fuel, x, h⟩ := h
  obtain ⟨xs, n, _, _, hl, hxl, hg⟩ := DataW.trod_struct ht h
  exact hl
theorem Rd.field {P : Program} {w : World} {t : TypeId} {cs : List Value} {fs : Array Field} (ht : P.underlying t = some (.struct fs)) (h : Rd P w t cs) (i : Nat) {e : TypeId} {off n : Nat} (hf : fs[i]?.map (fun f => (f.type, f.offset)) = some (e, off)) (hn : P.cellsOf e = n) :
    Rd P w e ((cs.drop off).take n) := by
  obtain ⟨H, enc, base, spare, held, fuel, x, h⟩ := h
  obtain ⟨xs, m, _, _, hl, hxl, hg⟩ := DataW.trod_struct ht h
  cases hfi : fs[i]? with
  | none => rw [hfi] at hf; cases hf
  | some f =>
    rw [hfi] at hf
    simp only [Option.map_some, Option.some.injEq, Prod.mk.injEq] at hf
    have h1 := hg i f hfi
    have hxi : i < xs.length := by rw [hxl]; exact (Array.getElem?_eq_some_iff.1 hfi).1
    rw [List.getElem?_eq_getElem hxi, hf.1, hf.2, hn] at h1
    exact ⟨H, enc, base, spare, held, m, _, h1⟩

theorem Rd.members {w : World} {cs : List Value} (h : Rd Try.prog w 27 cs) :
    ∃ A n c, ∃ L : List Mb, cs = [.slice A n c] ∧ n ≤ c ∧ c ≤ maxLen ∧ Rds w 2 A n (mv L) ∧ ∀ m ∈ L, Ytclpmadecibofaa.i64 m.1 ∧ Ytclpmadecibofaa.i64 m.2 := by
  refine h.rows Try.underlying27 (by kernel_rfl) cellM_len fun l hl hr => ?_
  obtain ⟨_, hg⟩ := hr.struct Try.underlying50 (by kernel_rfl)
  match l, hl, hg with
  | [a, b], _, hg =>
    obtain ⟨x, hx, hx2⟩ := (hg 0 _ rfl a rfl).i64 Try.underlying3
    obtain ⟨y, hy, hy2⟩ := (hg 1 _ rfl b rfl).i64 Try.underlying3
    simp only [List.cons.injEq, and_true] at hx hy
    subst hx hy
    exact ⟨(x, y), rfl, hx2, hy2⟩

theorem Rd.note {w : World} {S : Array Value} (h : Rd Try.prog w 31 (Value.agg S).cells.toList) :
    ∃ (n : Nt) (A : Option Addr) (k c : Nat) (B : Option Addr) (m d : Nat), S = NtC n A k c B m d ∧ NtAt w n A k c B m d := by
  have hl := h.len Try.underlying31
  rw [show Try.prog.cellsOf 31 = 11 by kernel_rfl] at hl
  have hg := fun i e off n => h.field Try.underlying31 i (e := e) (off := off) (n := n)
  simp only [Value.cells] at hl hg
  obtain ⟨l, rfl⟩ : ∃ l : List Value, S = l.toArray := ⟨S.toList, by simp⟩
  simp only [List.toList_toArray] at hl hg
  match l, hl, hg with
  | [a, b, c, d, e, f, g, h, i, j, k], _, hg =>
    have h0 : Rd Try.prog w 3 [a] := hg 0 3 0 1 (by rfl) (by kernel_rfl)
    have h1 : Rd Try.prog w 3 [b] := hg 1 3 1 1 (by rfl) (by kernel_rfl)
    have h2 : Rd Try.prog w 3 [c] := hg 2 3 2 1 (by rfl) (by kernel_rfl)
    have h3 : Rd Try.prog w 3 [d] := hg 3 3 3 1 (by rfl) (by kernel_rfl)
    have h4 : Rd Try.prog w 22 [e] := hg 4 22 4 1 (by rfl) (by kernel_rfl)
    have h5 : Rd Try.prog w 3 [f] := hg 5 3 5 1 (by rfl) (by kernel_rfl)
    have h6 : Rd Try.prog w 23 [g] := hg 6 23 6 1 (by rfl) (by kernel_rfl)
    have h7 : Rd Try.prog w 26 [h, i] := hg 7 26 7 2 (by rfl) (by kernel_rfl)
    have h8 : Rd Try.prog w 29 [j, k] := hg 8 29 9 2 (by rfl) (by kernel_rfl)
    obtain ⟨x0, e0, i0⟩ := h0.i64 Try.underlying3
    obtain ⟨x1, e1, i1⟩ := h1.i64 Try.underlying3
    obtain ⟨x2, e2, i2⟩ := h2.i64 Try.underlying3
    obtain ⟨x3, e3, i3⟩ := h3.i64 Try.underlying3
    obtain ⟨x4, e4, i4⟩ := h4.string Try.underlying22
    obtain ⟨x5, e5, i5⟩ := h5.i64 Try.underlying3
    obtain ⟨A, n, cc, x6, e6, j1, j2, j3, j4⟩ := h6.ints Try.underlying23 (by kernel_rfl) Try.underlying3
    obtain ⟨_, hr⟩ := h7.struct Try.underlying26 (by kernel_rfl)
    obtain ⟨x7, e7, i7⟩ := (hr 0 _ rfl h rfl).i64 Try.underlying24
    obtain ⟨x8, e8, i8⟩ := (hr 1 _ rfl i rfl).i64 Try.underlying3
    obtain ⟨_, hv⟩ := h8.struct Try.underlying29 (by kernel_rfl)
    obtain ⟨x9, e9, i9⟩ := (hv 0 _ rfl j rfl).i64 Try.underlying3
    obtain ⟨B, m, dd, x10, e10, k1, k2, k3, k4⟩ := Rd.members (hv 1 _ rfl k rfl)
    simp only [List.cons.injEq, and_true] at e0 e1 e2 e3 e4 e5 e6 e7 e8 e9 e10
    subst e0 e1 e2 e3 e4 e5 e6 e7 e8 e9 e10
    exact ⟨⟨x0, x1, x2, x3, x4, x5, x6, x7, x8, x9, x10⟩, A, n, cc, B, m, dd, rfl, ⟨⟨i0, i1, i2, i3, i5, j4, i7, i8, i9, k4, i4⟩, j3, j1, j2, k3, k1, k2⟩⟩

theorem num_any (x : Int) (w : World) : Calls Try.prog 12 #[.int .i64 x] w fun e w2 => e = .returned (.int .i64 x) ∧ w = w2 := by
  go_enter Try.func12, Try.ntmps12
  go_wp2_with fail
  go_ret
  exact ⟨rfl, rfl⟩

/-- The example's note. -/
def exN : Nt := { Nt.zero with kind := 1, node := 3, life := 1 }
theorem exN_ok : exN.ok := by
  have h := zero_ok
  have i1 : i64 1 := by unfold i64; omega
  have i3 : i64 3 := by unfold i64; omega
  exact ⟨i1, i3, i1, h.epoch, h.fn, h.args, h.err, h.val, h.vep, h.mems, h.id⟩
theorem exN_err : exN.packErr = 0 := by decide
theorem exN_pack : exN.pack = [2, 6, 2] := by decide

set_option maxRecDepth 100000 in
set_option maxHeartbeats 1000000 in
theorem note_alive (w : World) : Calls Try.prog 9 #[] w fun e w2 => e = .returned (.bool true) ∧ Chg Non w w2 := by
  go_enter Try.func9, Try.ntmps9
  go_wp2_with fail
  refine (pack_any w exN none 0 0 none 0 0 ⟨exN_ok, Rds.nil_, Nat.le_refl _, Nat.zero_le _, Rds.nil_, Nat.le_refl _, Nat.zero_le _⟩ (by omega) (by omega)).mono ?_
  rintro e w2 ⟨v, rfl, hv, hc⟩
  rw [exN_err]
  rw [exN_pack] at hv
  obtain ⟨A2, n2, c2, rfl, hn2, _, _, hr2⟩ := hv.open_
  have q1 := run_string_rds Try.underlying34 Try.underlying5 Try.underlying9 hr2 c2
  clear hv hr2
  go_wp2_with fail
  refine (num_any _ _).mono ?_
  rintro e w9 ⟨rfl, rfl⟩
  go_wp2_with fail
  go_ret
  exact ⟨rfl, hc⟩

/-- Is a note too much? -/
def bigN (n : Nt) (k m : Nat) : Bool := decide ((500 : Int) < n.id.size) || decide ((200 : Int) < k) || decide ((200 : Int) < m)
theorem bigN_no {n : Nt} {k m : Nat} (h : bigN n k m = false) : n.id.size ≤ 500 ∧ k ≤ 200 ∧ m ≤ 200 := by
  unfold bigN at h
  simp only [Bool.or_eq_false_iff, decide_eq_false_iff_not] at h
  omega
set_option maxRecDepth 100000 in
set_option maxHeartbeats 1000000 in
theorem big_any (w : World) (n : Nt) (A : Option Addr) (k c : Nat) (B : Option Addr) (m d : Nat) (h : NtAt w n A k c B m d) :
    Calls Try.prog 10 #[.agg (NtC n A k c B m d)] w fun e w2 => e = .returned (.bool (bigN n k m)) ∧ Chg Non w w2 := by
  have hk63 : k ≤ 9223372036854775807 := by have := h.kc; have := h.cm; unfold maxLen at this; omega
  have hm63 : m ≤ 9223372036854775807 := by have := h.md; have := h.dm; unfold maxLen at this; omega
  have hi63 : n.id.size ≤ 9223372036854775807 := by have := h.ok.id; unfold maxLen at this; omega
  clear h
  unfold NtC
  by_cases h1 : 500 < n.id.size
  · have H : Hid (bigN n k m = true) := by show _ = _; unfold bigN; rw [decide_eq_true (by omega)]; rfl
    go_enter Try.func10, Try.ntmps10
    go_wp2_with fail
    go_ret
    exact ⟨by first | rfl | (rw [H.out]; rfl), (Chg.refl _ _).alloc _⟩
  · by_cases h2 : 200 < k
    all_goals
      go_enter Try.func10, Try.ntmps10
      go_wp2_with fail
      go_ret
      exact ⟨by first | rfl | (rw [show bigN n k m = true from by unfold bigN; rw [decide_eq_true (show (200 : Int) < k by omega)]; simp]; rfl), (Chg.refl _ _).alloc _⟩
end Go.Proofs.Ytclpmadecibofaa
