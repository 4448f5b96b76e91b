/-
  gleanerref1.Put of a row of names of the call's own.
-/
import Derived.Test.YtogmnhneobdklaaIdsC
import Derived.Test.YtogmnhneobdklaaRiseS
import Derived.Sort.Walk0
import Derived.Test.YtogmnhneobdklaaLaw
import Derived.Test.YtogmnhneobdklaaGet
namespace Go.Proofs.Ytogmnhneobdklaa
open Go.RowKit
set_option linter.unusedVariables false
set_option linter.unusedSimpArgs false

theorem less_ltS (a b : ByteArray) : Op.bytesLess a.toList b.toList = decide (ltS a b) := by
  rw [Go.Proofs.bytesLess_eq, ByteArray.toList_eq, ByteArray.toList_eq]
  rfl
theorem putS_split {x : ByteArray} : ∀ {l : List ByteArray} {k : Nat}, (∀ y ∈ l.take k, ltS y x) → riseS x l = l.take k ++ riseS x (l.drop k)
  | l, 0, _ => by simp
  | [], k + 1, _ => by simp
  | y :: l, k + 1, h => by
    have hy : ltS y x := h y (by simp)
    rw [List.take_succ_cons, List.drop_succ_cons, List.cons_append, ← putS_split (l := l) (k := k) fun z hz => h z (by simp [hz])]
    show (if ltS y x then _ else _) = _
    rw [if_pos hy]
theorem putS_at {x y : ByteArray} {l : List ByteArray} {k : Nat} (h : ∀ z ∈ l.take k, ltS z x) (hy : l[k]? = some y) (hn : ¬ ltS y x) (hne : y ≠ x) : riseS x l = l.take k ++ [x] ++ l.drop k := by
  have hk := List.getElem?_eq_some_iff.1 hy
  rw [putS_split h, List.drop_eq_getElem_cons hk.1, hk.2]
  show l.take k ++ (if ltS y x then _ else if y = x then _ else _) = _
  rw [if_neg hn, if_neg hne]
  simp
theorem putS_has {y : ByteArray} {l : List ByteArray} {k : Nat} (h : ∀ z ∈ l.take k, ltS z y) (hy : l[k]? = some y) : riseS y l = l := by
  have hk := List.getElem?_eq_some_iff.1 hy
  rw [putS_split h, List.drop_eq_getElem_cons hk.1, hk.2]
  show l.take k ++ (if ltS y y then _ else if y = y then y :: l.drop (k + 1) else _) = _
  rw [if_neg (ltS_irrefl y), if_pos rfl, ← hk.2, ← List.drop_eq_getElem_cons hk.1, List.take_append_drop]
theorem putS_end {x : ByteArray} {l : List ByteArray} {k : Nat} (h : ∀ z ∈ l.take k, ltS z x) (hk : l.length ≤ k) : riseS x l = l.take k ++ [x] ++ l.drop k := by
  rw [putS_split h, List.drop_of_length_le hk]
  simp [riseS]
theorem takeS_lt {x y : ByteArray} {l : List ByteArray} {k : Nat} (h : ∀ z ∈ l.take k, ltS z x) (hy : l[k]? = some y) (hxy : ltS y x) : ∀ z ∈ l.take (k + 1), ltS z x := by
  intro z hz
  rw [List.take_add_one, hy] at hz
  rcases List.mem_append.1 hz with hz | hz
  · exact h z hz
  · simp at hz
    subst hz
    exact hxy

/-- What Put answers. -/
def PutSPost (w : World) (base : Nat) (v : Value) (x : ByteArray) (l : List ByteArray) (e : Ending) (w2 : World) : Prop :=
  ∃ v2 n2, e = .returned v2 ∧ OwnR rkI w2 base v2 n2 (sv (riseS x l)) ∧ Chg Non w w2 ∧ ∀ b, v2.ownBlock = some b → v.ownBlock = some b ∨ w.heap.size ≤ b

set_option maxRecDepth 100000 in
set_option maxHeartbeats 4000000 in
theorem putS_any (w : World) (base : Nat) (v : Value) (n : Nat) (l : List ByteArray) (x : ByteArray) (h : OwnR rkI w base v n (sv l)) (hb : base ≤ w.heap.size) (hn : n ≤ 1000000) :
    Calls Try.prog 13 #[v, .string x] w (PutSPost w base v x l) := by
  have Hown := Lib.hid h
  obtain ⟨A, c, rfl, hnc, hcm, hr, _⟩ := h.open_
  have Hnl := Lib.hid hr.lenMap
  have hsl := fun (k : Nat) (hk : k ≤ n) w => run_slice_lo (P := Try.prog) Try.underlying26 1 (by kernel_rfl) (by kernel_rfl) (kl := .i64) (i := (k : Int)) (k := k) (n := n) rfl hk A c w
  have hsh := fun (k : Nat) (hk : k ≤ n) w => run_slice_hi (P := Try.prog) Try.underlying26 (by kernel_rfl) (kl := .i64) (i := (k : Int)) (k := k) (c := c) rfl (by omega) A n w
  have Hsl := Lib.hid hsl
  have Hsh := Lib.hid hsh
  clear h hsl hsh
  go_enter Try.func13, Try.ntmps13
  go_wp2_with fail
  go_loop [5] (fun i => ∃ k : Nat, k ≤ n ∧ i = .int .i64 k ∧ Hid (∀ z ∈ l.take k, ltS z x)) (fun i => n - (intOf i).toNat)
  case atStart => exact ⟨0, Nat.zero_le _, rfl, (by intro z hz; simp at hz)⟩
  case round =>
    obtain ⟨k, hk, rfl, hlt⟩ := hrel
    by_cases hkn : k < n
    · obtain ⟨ad, y, hA, hy, hcell⟩ := hr.getS hkn
      by_cases h1 : ltS y x
      · have hlt2 := Lib.hid (takeS_lt hlt.out hy h1)
        have hb1 : Op.bytesLess y.toList x.toList = true := by rw [less_ltS]; exact decide_eq_true h1
        clear hy h1
        subst hA
        go_wp2_with fail
        go_round
        case rel => exact ⟨k + 1, by omega, by go_num, hlt2⟩
        case measure => simp [intOf]; omega
      · have hb1 : Op.bytesLess y.toList x.toList = false := by rw [less_ltS]; exact decide_eq_false h1
        by_cases h2 : y = x
        · subst h2
          have hst := Lib.hid (putS_has hlt.out hy)
          clear hy h1
          subst hA
          go_wp2_with fail
          go_ret
          exact ⟨_, n, rfl, by rw [hst.out]; exact Hown.out, Chg.refl _ _, fun b hb => .inl hb⟩
        · have hst := Lib.hid (putS_at hlt.out hy h1 h2)
          have hne : (y.toList == x.toList) = false := str_ne h2
          have hlo := Hsl.out k hk
          have hhi := Hsh.out k hk
          have hr1 : Rds w 1 (cutA A c k 1) (n - k) (sv (l.drop k)) := by
            have := hr.cutA hk hnc
            rw [show (sv l).drop (k * 1) = sv (l.drop k) by simp [sv]] at this
            exact this
          have hr2 : Rds w 1 A k (sv (l.take k)) := by
            have := hr.upto hk
            rw [show (sv l).take (k * 1) = sv (l.take k) by simp [sv]] at this
            exact this
          clear hy hlt h1 h2
          subst hA
          go_wp2_with (first
            | (at_builtin; refine appR (K := rkI) rfl _ (.tmp 36) rfl (OwnR.nil rkI w w.heap.size) rfl hr1 rfl (svI_one _) ?_ ?_ ?_; (next => omega); (next => exact Nat.le_refl _); intro v1 w1 o1 c1 _; have d1 := c1.mono (S2 := Non) (fun _ e => by cases e); simp only [Nat.zero_add, List.nil_append] at o1; clear c1; have s1 := d1.size)
            | (at_builtin; refine appR (K := rkI) rfl _ (.tmp 40) rfl (OwnR.nil rkI w1 w1.heap.size) rfl (hr2.non d1) rfl (svI_one _) ?_ ?_ ?_; (next => omega); (next => exact Nat.le_refl _); intro v2 w2 o2 c2 _; have d2 := c2.mono (S2 := Non) (fun _ e => by cases e); simp only [Nat.zero_add, List.nil_append] at o2; clear c2; have s2 := d2.size; have o1b := o1.non d2)
            | (at_builtin; refine appR1 (K := rkI) rfl (.tmp 41) (.tmp 43) rfl o2 rfl (cs := #[.string x]) rfl rfl (svI_one [x]) ?_ ?_ ?_; (next => omega); (next => exact s2); intro v3 w3 o3 c3 _; have d3 := OwnR.chgApp o2 (Chg.refl Non w1 |>.non d2) (Nat.le_refl _) c3; have o1c := o1b.chg c3 (fun g hg e => by have h1 := (o1.lt hg).2; have h2 := (o2.lt (show v2.ownBlock = some g from e)).1; omega); have s3 := d3.size)
            | (obtain ⟨A1, e1, rfl, _, _, r1, _⟩ := o1c.open_; at_builtin; refine appR (K := rkI) rfl (.tmp 44) (.tmp 45) rfl o3 rfl r1 rfl (svI_one _) ?_ ?_ ?_; (next => omega); (next => exact s3); intro v4 w4 o4 c4 _; have d4 := OwnR.chgApp o3 (d1.non d3) s1 c4))
          go_ret
          refine ⟨v4, k + 1 + (n - k), rfl, ?_, d4, fun b hb => .inr (by have := (o4.lt hb).1; omega)⟩
          rw [hst.out]
          have o5 := o4.mono (b2 := base) (by omega)
          simpa [sv] using o5
    · have hst := Lib.hid (putS_end hlt.out (by have := Hnl.out; omega))
      have hlo := Hsl.out k hk
      have hhi := Hsh.out k hk
      have hr1 : Rds w 1 (cutA A c k 1) (n - k) (sv (l.drop k)) := by
        have := hr.cutA hk hnc
        rw [show (sv l).drop (k * 1) = sv (l.drop k) by simp [sv]] at this
        exact this
      have hr2 : Rds w 1 A k (sv (l.take k)) := by
        have := hr.upto hk
        rw [show (sv l).take (k * 1) = sv (l.take k) by simp [sv]] at this
        exact this
      clear hlt
      go_wp2_with (first
        | (at_builtin; refine appR (K := rkI) rfl _ (.tmp 36) rfl (OwnR.nil rkI w w.heap.size) rfl hr1 rfl (svI_one _) ?_ ?_ ?_; (next => omega); (next => exact Nat.le_refl _); intro v1 w1 o1 c1 _; have d1 := c1.mono (S2 := Non) (fun _ e => by cases e); simp only [Nat.zero_add, List.nil_append] at o1; clear c1; have s1 := d1.size)
        | (at_builtin; refine appR (K := rkI) rfl _ (.tmp 40) rfl (OwnR.nil rkI w1 w1.heap.size) rfl (hr2.non d1) rfl (svI_one _) ?_ ?_ ?_; (next => omega); (next => exact Nat.le_refl _); intro v2 w2 o2 c2 _; have d2 := c2.mono (S2 := Non) (fun _ e => by cases e); simp only [Nat.zero_add, List.nil_append] at o2; clear c2; have s2 := d2.size; have o1b := o1.non d2)
        | (at_builtin; refine appR1 (K := rkI) rfl (.tmp 41) (.tmp 43) rfl o2 rfl (cs := #[.string x]) rfl rfl (svI_one [x]) ?_ ?_ ?_; (next => omega); (next => exact s2); intro v3 w3 o3 c3 _; have d3 := OwnR.chgApp o2 (Chg.refl Non w1 |>.non d2) (Nat.le_refl _) c3; have o1c := o1b.chg c3 (fun g hg e => by have h1 := (o1.lt hg).2; have h2 := (o2.lt (show v2.ownBlock = some g from e)).1; omega); have s3 := d3.size)
        | (obtain ⟨A1, e1, rfl, _, _, r1, _⟩ := o1c.open_; at_builtin; refine appR (K := rkI) rfl (.tmp 44) (.tmp 45) rfl o3 rfl r1 rfl (svI_one _) ?_ ?_ ?_; (next => omega); (next => exact s3); intro v4 w4 o4 c4 _; have d4 := OwnR.chgApp o3 (d1.non d3) s1 c4))
      go_ret
      refine ⟨v4, k + 1 + (n - k), rfl, ?_, d4, fun b hb => .inr (by have := (o4.lt hb).1; omega)⟩
      rw [hst.out]
      have o5 := o4.mono (b2 := base) (by omega)
      simpa [sv] using o5
end Go.Proofs.Ytogmnhneobdklaa
