/-
  From a walk to a given statement: what arguments read as, and that they read so behind the call.
-/
import Derived.Test.YteinbdifncdaiaaRows
import Derived.Test.YteinbdifncdaiaaTdBase
import Derived.ProofKit
import Derived.OpenShut
namespace Go.Proofs.Yteinbdifncdaiaa
open Go.ChangeShapes Go.WideShapes Go.ChangeAt Go.RowKit

theorem own : ownKnob Try.prog.godebug = none := by kernel_rfl
theorem laidOut : laidOutB Try.prog = true := by kernel_rfl

def i64 (x : Int) : Prop := -9223372036854775808 ≤ x ∧ x ≤ 9223372036854775807

theorem args_stay {H : Type} {enc : TypeId × Value → H} {P : Program} (hl : laidOutB P = true) {W W2 : World} (hb : Below W.heap.size W W2) :
    ∀ {ts : List TypeId} {vs : List Value} {ds : List (DataW H)} {ps : List MemPlace}, (∀ t ∈ ts, P.readableRec t = true ∧ t < P.types.size) → DataW.TrodAll enc P W 0 (fun _ => true) true ts vs ds ps → (∀ x ∈ ps, x.block < W.heap.size) →
      DataW.TrodAll enc P W2 0 (fun b => decide (b < W.heap.size)) true ts vs ds ps
  | [], [], [], _, _, h, _ => h
  | t :: ts, v :: vs, d :: ds, ps, ht, ⟨p, q, hp, hq, e⟩, hlt =>
    ⟨p, q, Below.trod hl (ht t (by simp)).1 (ht t (by simp)).2 hp hb (fun x hx => hlt x (by rw [e]; simp [hx])), args_stay hl hb (fun t h => ht t (by simp [h])) hq (fun x hx => hlt x (by rw [e]; simp [hx])), e⟩
  | [], [], _ :: _, _, _, h, _ => h.elim
  | [], _ :: _, _, _, _, h, _ => h.elim
  | _ :: _, [], _, _, _, h, _ => h.elim
  | _ :: _, _ :: _, [], _, _, h, _ => h.elim

/-- A law's post: it returned true, and no old block has changed. -/
theorem law_post {H : Type} {enc : TypeId × Value → H} {P : Program} {f : Func} {s : ChangeSpec} {tb : TypeId} {W W2 : World} {args : Array Value} {ds gs : List (DataW H)} {before : List MemPlace}
    (hl : laidOutB P = true) (hts : ∀ t ∈ f.params.toList, P.readableRec t = true ∧ t < P.types.size) (hres : f.resultTypes = #[tb]) (htb : P.underlying tb = some .bool) (hvars : s.vars = [])
    (hW : DataW.Whole enc P f.params.toList s.vars false W args.toList ds gs before)
    (hfn : s.fn H ds = { results := [.lit (.bool true)], args := ds }) (hb : Chg Non W W2) : s.post enc P f false true false false W args (.bool true) W2 := by
  have hW2 := hW
  obtain ⟨p, q, hA, hV, rfl, _, _⟩ := hW
  rw [hvars] at hV
  obtain ⟨rfl, rfl⟩ : gs = [] ∧ q = [] := by
    cases gs with
    | nil => exact ⟨rfl, hV⟩
    | cons g gs => exact hV.elim
  have hlt : ∀ x ∈ p, x.block < W.heap.size := fun x hx => by simpa using hW2.lt x (by simp [hx])
  refine ⟨ds, [], _, [] ++ [], p, [], hW2, ?_, ?_, ?_, hb.below.frame _, fun h => by cases h⟩
  · rw [List.append_nil, hfn, hres]
    exact ⟨[], [], shut_bool htb true, rfl, rfl⟩
  · rw [List.append_nil, hfn]
    exact args_stay hl hb.below hts hA hlt
  · rw [List.append_nil, hfn, hvars]
    exact rfl

/-- Cells that can be read at a type. -/
def Rd (P : Program) (w : World) (t : TypeId) (cs : List Value) : Prop :=
  ∃ (H : Type) (enc : TypeId × Value → H) (base : Nat) (spare : Nat → Bool) (held : Bool) (fuel : Nat) (x : DataW H × List MemPlace), DataW.trod enc P w base spare held fuel t cs = some x

section
variable {P : Program} {w : World} {t : TypeId} {cs : List Value}
theorem Rd.of {H : Type} {enc : TypeId × Value → H} {base : Nat} {spare : Nat → Bool} {held : Bool} {v : Value} {d : DataW H} {ps : List MemPlace} (h : DataW.Trod enc P w base spare held t v d ps) : Rd P w t v.cells.toList :=
  let ⟨fuel, h⟩ := h; ⟨H, enc, base, spare, held, fuel, _, h⟩
theorem Rd.int {k : IntKind} (ht : P.underlying t = some (.int k)) (h : Rd P w t cs) : ∃ n, cs = [.int k n] ∧ (Lit.int k n).wf = true := by
  obtain ⟨_, _, _, _, _, _, _, h⟩ := h
  obtain ⟨n, h1, _, h2⟩ := DataW.trod_int ht h
  exact ⟨n, h1, h2⟩
theorem Rd.bool (ht : P.underlying t = some .bool) (h : Rd P w t cs) : ∃ b, cs = [.bool b] := by
  obtain ⟨_, _, _, _, _, _, _, h⟩ := h
  obtain ⟨n, h1, _⟩ := DataW.trod_bool ht h
  exact ⟨n, h1⟩
theorem Rd.string (ht : P.underlying t = some .string) (h : Rd P w t cs) : ∃ s : ByteArray, cs = [.string s] ∧ s.size ≤ maxLen := by
  obtain ⟨_, _, _, _, _, _, _, h⟩ := h
  obtain ⟨n, h1, _, h2⟩ := DataW.trod_string ht h
  exact ⟨n, h1, h2⟩
theorem Rd.slice {e : TypeId} (ht : P.underlying t = some (.slice e)) (h : Rd P w t cs) :
    ∃ A n c, cs = [.slice A n c] ∧ n ≤ c ∧ c ≤ maxLen ∧ (0 < n → ∃ ad, A = some ad ∧ ∀ i, i < n → ∃ l, l.length = P.cellsOf e ∧ (∀ j u, l[j]? = some u → w.cell? ((ad.add (i * P.cellsOf e)).add j) = some u) ∧ Rd P w e l) := by
  obtain ⟨H, enc, base, spare, held, _, _, h⟩ := h
  rcases DataW.trod_slice ht h with ⟨rfl, _⟩ | ⟨a, len, cap, elems, rest, n, _, rfl, _, hb, hl, hm, hlen, hel, _⟩
  · exact ⟨none, 0, 0, rfl, Nat.le_refl _, by unfold maxLen; omega, fun h => absurd h (by omega)⟩
  · refine ⟨some a, len, cap, rfl, hl, hm, fun _ => ⟨a, rfl, fun i hi => ?_⟩⟩
    have h1 := hel i hi
    rw [List.getElem?_eq_getElem (by omega), Option.bind_eq_some_iff] at h1
    obtain ⟨l, hl1, hl2⟩ := h1
    unfold World.cells? at hl1
    split at hl1
    · refine ⟨l, by simpa using mapM_some_length hl1, fun j u hu => ?_, H, enc, base, spare, held, n, _, hl2⟩
      have hj : j < P.cellsOf e := by
        have h2 := mapM_some_length hl1
        have h3 := (List.getElem?_eq_some_iff.1 hu).1
        simp at h2; omega
      have := mapM_some_get hl1 j j (by simp [hj])
      rw [this, hu]
    · cases hl1
/-- A slice whose elements take a cell each. -/
theorem Rd.slice1 {e : TypeId} (ht : P.underlying t = some (.slice e)) (hc : P.cellsOf e = 1) (h : Rd P w t cs) :
    ∃ A n c vs, cs = [.slice A n c] ∧ n ≤ c ∧ c ≤ maxLen ∧ Rds w 1 A n vs ∧ ∀ u ∈ vs, Rd P w e [u] := by
  obtain ⟨A, n, c, rfl, hn, hm, hs⟩ := h.slice ht
  rw [hc] at hs
  rcases Nat.eq_zero_or_pos n with h0 | h0
  · subst h0
    exact ⟨A, 0, c, [], rfl, hn, hm, Rds.nil_, by simp⟩
  · obtain ⟨ad, rfl, hq⟩ := hs h0
    have : ∀ m, m ≤ n → ∃ vs : List Value, vs.length = m ∧ ∀ i u, vs[i]? = some u → w.cell? (ad.add i) = some u ∧ Rd P w e [u] := by
      intro m
      induction m with
      | zero => exact fun _ => ⟨[], rfl, by simp⟩
      | succ m ih =>
        intro hm
        obtain ⟨vs, hl, hv⟩ := ih (by omega)
        obtain ⟨l, hl1, hl2, hl3⟩ := hq m (by omega)
        match l, hl1, hl2, hl3 with
        | [x], _, hl2, hl3 =>
          refine ⟨vs ++ [x], by simp [hl], fun i u hu => ?_⟩
          rcases Nat.lt_or_ge i m with hi | hi
          · rw [List.getElem?_append_left (by omega)] at hu
            exact hv i u hu
          · have hin : i = m := by
              have := (List.getElem?_eq_some_iff.1 hu).1
              simp at this; omega
            subst hin
            rw [List.getElem?_append_right (by omega)] at hu
            simp [hl] at hu
            subst hu
            have := hl2 0 x rfl
            rw [add_add, Nat.mul_one, Nat.add_zero] at this
            exact ⟨this, hl3⟩
    obtain ⟨vs, hl, hv⟩ := this n (Nat.le_refl _)
    refine ⟨some ad, n, c, vs, rfl, hn, hm, ⟨by omega, fun _ => ⟨ad, rfl, fun j u hu => (hv j u hu).1⟩⟩, fun u hu => ?_⟩
    obtain ⟨i, hi⟩ := List.getElem?_of_mem hu
    exact (hv i u hi).2
end

theorem wf_i64 {n : Int} (h : (Lit.int .i64 n).wf = true) : i64 n := by
  have h1 : IntKind.i64.min = -9223372036854775808 := rfl
  have h2 : IntKind.i64.max = 9223372036854775807 := rfl
  simp only [Lit.wf, Bool.and_eq_true, decide_eq_true_eq] at h
  unfold i64; omega

theorem all_map {α : Type} {f : α → Value} {Q : α → Prop} : ∀ {vs : List Value}, (∀ u ∈ vs, ∃ x, u = f x ∧ Q x) → ∃ l : List α, vs = l.map f ∧ ∀ x ∈ l, Q x
  | [], _ => ⟨[], rfl, by simp⟩
  | v :: vs, h => by
    obtain ⟨x, rfl, hx⟩ := h v (by simp)
    obtain ⟨l, rfl, hl⟩ := all_map (vs := vs) fun u hu => h u (by simp [hu])
    exact ⟨x :: l, rfl, by simpa using ⟨hx, hl⟩⟩

section
variable {P : Program} {w : World} {t : TypeId} {cs : List Value}
theorem Rd.i64 (ht : P.underlying t = some (.int .i64)) (h : Rd P w t cs) : ∃ n, cs = [.int .i64 n] ∧ i64 n := by
  obtain ⟨n, h1, h2⟩ := h.int ht
  exact ⟨n, h1, wf_i64 h2⟩
theorem Rd.bytes {e : TypeId} (ht : P.underlying t = some (.slice e)) (hc : P.cellsOf e = 1) (he : P.underlying e = some (.int .u8)) (h : Rd P w t cs) :
    ∃ A n c L, cs = [.slice A n c] ∧ n ≤ c ∧ c ≤ maxLen ∧ Rds w 1 A n (bv L) := by
  obtain ⟨A, n, c, vs, h1, h2, h3, h4, h5⟩ := h.slice1 ht hc
  obtain ⟨l, rfl, _⟩ := all_map (f := fun b : UInt8 => .int .u8 b.toNat) (Q := fun _ => True) (vs := vs) fun u hu => by
    obtain ⟨n, h1, h2⟩ := (h5 u hu).int he
    simp only [List.cons.injEq, and_true] at h1
    subst h1
    have h3 : IntKind.u8.min = 0 := rfl
    have h4 : IntKind.u8.max = 255 := rfl
    simp only [Lit.wf, Bool.and_eq_true, decide_eq_true_eq] at h2
    refine ⟨UInt8.ofNat n.toNat, ?_, trivial⟩
    rw [UInt8.toNat_ofNat']
    congr 1
    omega
  exact ⟨A, n, c, l, h1, h2, h3, h4⟩
theorem Rd.ints {e : TypeId} (ht : P.underlying t = some (.slice e)) (hc : P.cellsOf e = 1) (he : P.underlying e = some (.int .i64)) (h : Rd P w t cs) :
    ∃ A n c l, cs = [.slice A n c] ∧ n ≤ c ∧ c ≤ maxLen ∧ Rds w 1 A n (iv l) ∧ ∀ x ∈ l, Yteinbdifncdaiaa.i64 x := by
  obtain ⟨A, n, c, vs, h1, h2, h3, h4, h5⟩ := h.slice1 ht hc
  obtain ⟨l, rfl, hl⟩ := all_map (f := fun n : Int => .int .i64 n) (Q := fun x => Yteinbdifncdaiaa.i64 x) (vs := vs) fun u hu => by
    obtain ⟨n, h1, h2⟩ := (h5 u hu).i64 he
    simp only [List.cons.injEq, and_true] at h1
    exact ⟨n, h1, h2⟩
  exact ⟨A, n, c, l, h1, h2, h3, h4, hl⟩
theorem Rd.bools {e : TypeId} (ht : P.underlying t = some (.slice e)) (hc : P.cellsOf e = 1) (he : P.underlying e = some .bool) (h : Rd P w t cs) :
    ∃ A n c, ∃ l : List Bool, cs = [.slice A n c] ∧ n ≤ c ∧ c ≤ maxLen ∧ Rds w 1 A n (l.map Value.bool) := by
  obtain ⟨A, n, c, vs, h1, h2, h3, h4, h5⟩ := h.slice1 ht hc
  obtain ⟨l, rfl, _⟩ := all_map (f := Value.bool) (Q := fun _ => True) (vs := vs) fun u hu => by
    obtain ⟨n, h1⟩ := (h5 u hu).bool he
    simp only [List.cons.injEq, and_true] at h1
    exact ⟨n, h1, trivial⟩
  exact ⟨A, n, c, l, h1, h2, h3, h4⟩
end

/-- A value of one cell is told by its cells. -/
theorem cells_one {v u : Value} (h : v.cells.toList = [u]) (h1 : v.oneCell' = true) : v = u := by
  cases v <;> simp_all [Value.cells, Value.oneCell']
end Go.Proofs.Yteinbdifncdaiaa
