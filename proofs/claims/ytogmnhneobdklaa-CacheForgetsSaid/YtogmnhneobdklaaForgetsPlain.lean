/-
  CacheForgets: plain.
-/
import Derived.Test.YtogmnhneobdklaaCaNames
namespace Go.Proofs.Ytogmnhneobdklaa
open Go.RowKit
set_option linter.unusedVariables false
set_option linter.unusedSimpArgs false

/-- The name of a number. -/
def nm (x : Int) : ByteArray := id2 2 (x % 16).toNat
def nms (l : List Int) : List ByteArray := l.map nm
theorem nm_vid (x : Int) : vid (nm x) = true := id2_vid (by omega) (by omega)
theorem nm_eq {x y : Int} : nm x = nm y ↔ x % 16 = y % 16 := by
  unfold nm
  constructor
  · intro h
    have := id2_inj (by omega) (by omega) h
    omega
  · intro h; rw [h]
theorem nms_step {l : List Int} {k : Nat} {x : Int} (h : l[k]? = some x) : nms (l.take (k + 1)) = nms (l.take k) ++ [nm x] := by
  unfold nms
  rw [List.take_add_one, h]
  simp
/-- Who is told. -/
def wantR (gone : List ByteArray) (l : List Int) (k : Nat) : List ByteArray := risenS ((nms (l.take k)).filter fun y => !inB gone y)
theorem want_in {gone : List ByteArray} {l : List Int} {k : Nat} {x : Int} (h : l[k]? = some x) (hg : inB gone (nm x) = true) : wantR gone l (k + 1) = wantR gone l k := by
  unfold wantR
  rw [nms_step h, List.filter_append]
  simp [hg]
theorem want_out {gone : List ByteArray} {l : List Int} {k : Nat} {x : Int} (h : l[k]? = some x) (hg : inB gone (nm x) = false) : wantR gone l (k + 1) = riseS (nm x) (wantR gone l k) := by
  unfold wantR
  rw [nms_step h, List.filter_append]
  simp only [hg, List.filter_cons, Bool.not_false, if_true, List.filter_nil]
  exact risenS_snoc _ _
theorem want_len (gone : List ByteArray) (l : List Int) (k : Nat) : (wantR gone l k).length ≤ k := by
  have h1 := risenS_le ((nms (l.take k)).filter fun y => !inB gone y)
  have h2 := List.length_filter_le (fun y => !inB gone y) (nms (l.take k))
  have h3 : (nms (l.take k)).length ≤ k := by unfold nms; rw [List.length_map]; exact List.length_take_le _ _
  unfold wantR
  omega
/-- How many that are forgotten wait. -/
def cntF (gone : List ByteArray) (l : List Int) (k : Nat) : Nat := ((risenS (nms (l.take k))).filter (inB gone)).length
theorem rise_filter (p : ByteArray → Bool) (x : ByteArray) : ∀ (R : List ByteArray), RisesS R → ((riseS x R).filter p).length = (R.filter p).length + (if p x && !inB R x then 1 else 0)
  | [], _ => by cases h : p x <;> simp [riseS, h, inB]
  | y :: R, hr => by
    obtain ⟨h1, h2⟩ := List.pairwise_cons.1 hr
    have ih := rise_filter p x R h2
    unfold riseS
    by_cases hyx : ltS y x
    · rw [if_pos hyx]
      have hne : y ≠ x := ltS_ne hyx
      have e : inB (y :: R) x = inB R x := by simp [inB, hne]
      rw [e]
      cases hy : p y <;> simp only [List.filter_cons, hy, if_true, if_false, List.length_cons, Bool.false_eq_true] <;> omega
    · rw [if_neg hyx]
      by_cases he : y = x
      · subst he
        rw [if_pos rfl]
        simp [inB]
      · rw [if_neg he]
        have hxy : ltS x y := (ltS_tri x y).elim id (fun h => h.elim (fun e => absurd e.symm he) (fun h => absurd h hyx))
        have e : inB (y :: R) x = false := by
          rw [inB_false]
          intro hm
          rcases List.mem_cons.1 hm with h | h
          · exact he h.symm
          · exact ltS_asym hxy (h1 x h)
        rw [e]
        cases hx : p x <;> simp [List.filter_cons, hx]
theorem inB_risen (L : List ByteArray) (x : ByteArray) : inB (risenS L) x = inB L x := by
  rw [Bool.eq_iff_iff, inB_true, inB_true]
  exact (risenS_spec L).2 x
theorem cntF_step {gone : List ByteArray} {l : List Int} {k : Nat} {x : Int} (h : l[k]? = some x) : cntF gone l (k + 1) = cntF gone l k + (if inB gone (nm x) && !inB (nms (l.take k)) (nm x) then 1 else 0) := by
  unfold cntF
  rw [nms_step h, risenS_snoc, rise_filter _ _ _ (risenS_spec _).1, inB_risen]
theorem cntF_le (gone : List ByteArray) (l : List Int) (k : Nat) : cntF gone l k ≤ k := by
  have h1 := risenS_le (nms (l.take k))
  have h2 := List.length_filter_le (inB gone) (risenS (nms (l.take k)))
  have h3 : (nms (l.take k)).length ≤ k := by unfold nms; rw [List.length_map]; exact List.length_take_le _ _
  unfold cntF
  omega
theorem cntF_all {gone : List ByteArray} {l : List Int} {n : Nat} (hn : l.length ≤ n) : (risenS gone).countP (inB (nms l)) = cntF gone l n := by
  unfold cntF
  rw [List.take_of_length_le hn, List.countP_eq_length_filter]
  congr 1
  refine rises_eqS ((risenS_spec gone).1.filter _) ((risenS_spec (nms l)).1.filter _) fun z => ?_
  rw [List.mem_filter, List.mem_filter, (risenS_spec gone).2, (risenS_spec (nms l)).2, inB_true, inB_true]
  exact And.comm
theorem want_all {gone : List ByteArray} {l : List Int} {n : Nat} (hn : l.length ≤ n) {L : List ByteArray} (hr : RisesS L) (hm : ∀ x, x ∈ L ↔ (inB (nms l) x && !inB (risenS gone) x) = true) : L = wantR gone l n := by
  unfold wantR
  rw [List.take_of_length_le hn]
  refine rises_eqS hr (risenS_spec _).1 fun z => ?_
  rw [hm, (risenS_spec _).2, List.mem_filter, inB_risen, Bool.and_eq_true, inB_true]
end Go.Proofs.Ytogmnhneobdklaa
