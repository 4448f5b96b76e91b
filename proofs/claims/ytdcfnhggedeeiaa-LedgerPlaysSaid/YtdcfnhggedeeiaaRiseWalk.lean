/-
  gleanerref1.Rise of a row of the call's own.
-/
import Derived.Test.YtdcfnhggedeeiaaSortInts
import Derived.Test.YtdcfnhggedeeiaaLaw
import Derived.Test.YtdcfnhggedeeiaaGet
namespace Go.Proofs.Ytdcfnhggedeeiaa
open Go.RowKit
set_option linter.unusedVariables false
set_option linter.unusedSimpArgs false

theorem rise_split {x : Int} : ∀ {l : List Int} {k : Nat}, (∀ y ∈ l.take k, y < x) → riseI x l = l.take k ++ riseI x (l.drop k)
  | l, 0, _ => by simp
  | [], k + 1, _ => by simp
  | y :: l, k + 1, h => by
    have hy : y < x := h y (by simp)
    rw [List.take_succ_cons, List.drop_succ_cons, List.cons_append, ← rise_split (l := l) (k := k) fun z hz => h z (by simp [hz])]
    show (if y < x then _ else _) = _
    rw [if_pos hy]
theorem rise_at {x y : Int} {l : List Int} {k : Nat} (h : ∀ z ∈ l.take k, z < x) (hy : l[k]? = some y) (hxy : x < y) : riseI x l = l.take k ++ [x] ++ l.drop k := by
  have hk := List.getElem?_eq_some_iff.1 hy
  rw [rise_split h, List.drop_eq_getElem_cons hk.1, hk.2]
  show l.take k ++ (if y < x then _ else if y = x then _ else _) = _
  rw [if_neg (by omega), if_neg (by omega)]
  simp
theorem rise_has {y : Int} {l : List Int} {k : Nat} (h : ∀ z ∈ l.take k, z < y) (hy : l[k]? = some y) : riseI y l = l := by
  have hk := List.getElem?_eq_some_iff.1 hy
  rw [rise_split h, List.drop_eq_getElem_cons hk.1, hk.2]
  show l.take k ++ (if y < y then _ else if y = y then y :: l.drop (k + 1) else _) = _
  rw [if_neg (by omega), if_pos rfl, ← hk.2, ← List.drop_eq_getElem_cons hk.1, List.take_append_drop]
theorem rise_end {x : Int} {l : List Int} {k : Nat} (h : ∀ z ∈ l.take k, z < x) (hk : l.length ≤ k) : riseI x l = l.take k ++ [x] ++ l.drop k := by
  rw [rise_split h, List.drop_of_length_le hk]
  simp [riseI]
theorem take_lt {x y : Int} {l : List Int} {k : Nat} (h : ∀ z ∈ l.take k, z < x) (hy : l[k]? = some y) (hxy : y < x) : ∀ z ∈ l.take (k + 1), z < x := by
  intro z hz
  rw [List.take_add_one, hy] at hz
  rcases List.mem_append.1 hz with hz | hz
  · exact h z hz
  · simp at hz; omega
theorem iv_one' (l : List Int) : ∀ u ∈ iv l, u.oneCell' = true := fun u hu => by
  simp only [iv, List.mem_map] at hu
  obtain ⟨x, _, rfl⟩ := hu
  rfl

/-- What Rise answers. -/
def RisePostO (w : World) (base : Nat) (v : Value) (x : Int) (l : List Int) (e : Ending) (w2 : World) : Prop :=
  ∃ v2 n2, e = .returned v2 ∧ OwnR rkN w2 base v2 n2 (iv (riseI x l)) ∧ Chg Non w w2 ∧ ∀ b, v2.ownBlock = some b → v.ownBlock = some b ∨ w.heap.size ≤ b
def RisePost (w : World) (base : Nat) (x : Int) (l : List Int) (e : Ending) (w2 : World) : Prop :=
  ∃ v2 n2, e = .returned v2 ∧ OwnR rkN w2 base v2 n2 (iv (riseI x l)) ∧ Chg Non w w2

set_option maxRecDepth 100000 in
set_option maxHeartbeats 4000000 in
theorem rise_own (w : World) (base : Nat) (v : Value) (n : Nat) (l : List Int) (x : Int) (h : OwnR rkN w base v n (iv l)) (hb : base ≤ w.heap.size) (hn : n ≤ 1000000) :
    Calls Try.prog 13 #[v, .int .i64 x] w (RisePostO w base v x l) := by
  have Hown := Lib.hid h
  obtain ⟨A, c, rfl, hnc, hcm, hr, _⟩ := h.open_
  have Hnl := Lib.hid hr.lenMap
  have hsl := fun (k : Nat) (hk : k ≤ n) w => run_slice_lo (P := Try.prog) Try.underlying22 1 (by kernel_rfl) (by kernel_rfl) (kl := .i64) (i := (k : Int)) (k := k) (n := n) rfl hk A c w
  have hsh := fun (k : Nat) (hk : k ≤ n) w => run_slice_hi (P := Try.prog) Try.underlying22 (by kernel_rfl) (kl := .i64) (i := (k : Int)) (k := k) (c := c) rfl (by omega) A n w
  have Hsl := Lib.hid hsl
  have Hsh := Lib.hid hsh
  clear h hsl hsh
  go_enter Try.func13, Try.ntmps13
  go_wp2_with fail
  go_loop [5] (fun i => ∃ k : Nat, k ≤ n ∧ i = .int .i64 k ∧ Hid (∀ z ∈ l.take k, z < x)) (fun i => n - (intOf i).toNat)
  case atStart => exact ⟨0, Nat.zero_le _, rfl, (by intro z hz; simp at hz)⟩
  case round =>
    obtain ⟨k, hk, rfl, hlt⟩ := hrel
    by_cases hkn : k < n
    · obtain ⟨ad, y, hA, hy, hcell⟩ := hr.getI hkn
      by_cases h1 : y < x
      · have hlt2 := Lib.hid (take_lt hlt.out hy h1)
        clear hy
        subst hA
        go_wp2_with fail
        go_round
        case rel => exact ⟨k + 1, by omega, by go_num, hlt2⟩
        case measure => simp [intOf]; omega
      · by_cases h2 : y = x
        · subst h2
          have hst := Lib.hid (rise_has hlt.out hy)
          clear hy
          subst hA
          go_wp2_with fail
          go_ret
          exact ⟨_, n, rfl, by rw [hst.out]; exact Hown.out, Chg.refl _ _, fun b hb => .inl hb⟩
        · have hst := Lib.hid (rise_at hlt.out hy (by omega))
          have hne : (y == x) = false := beq_eq_false_iff_ne.2 h2
          have hlo := Hsl.out k hk
          have hhi := Hsh.out k hk
          have hr1 : Rds w 1 (cutA A c k 1) (n - k) (iv (l.drop k)) := by
            have := hr.cutA hk hnc
            rw [show (iv l).drop (k * 1) = iv (l.drop k) by simp [iv]] at this
            exact this
          have hr2 : Rds w 1 A k (iv (l.take k)) := by
            have := hr.upto hk
            rw [show (iv l).take (k * 1) = iv (l.take k) by simp [iv]] at this
            exact this
          clear hy hlt
          subst hA
          go_wp2_with (first
            | (at_builtin; refine appR (K := rkN) rfl _ (.tmp 36) rfl (OwnR.nil rkN w w.heap.size) rfl hr1 rfl (iv_one' _) ?_ ?_ ?_; (next => omega); (next => exact Nat.le_refl _); intro v1 w1 o1 c1 _; have d1 := c1.mono (S2 := Non) (fun _ e => by cases e); simp only [Nat.zero_add, List.nil_append] at o1; clear c1; have s1 := d1.size)
            | (at_builtin; refine appR (K := rkN) rfl _ (.tmp 40) rfl (OwnR.nil rkN w1 w1.heap.size) rfl (hr2.non d1) rfl (iv_one' _) ?_ ?_ ?_; (next => omega); (next => exact Nat.le_refl _); intro v2 w2 o2 c2 _; have d2 := c2.mono (S2 := Non) (fun _ e => by cases e); simp only [Nat.zero_add, List.nil_append] at o2; clear c2; have s2 := d2.size; have o1b := o1.non d2)
            | (at_builtin; refine appR1 (K := rkN) rfl (.tmp 41) (.tmp 43) rfl o2 rfl (cs := #[.int .i64 x]) rfl rfl (iv_one' [x]) ?_ ?_ ?_; (next => omega); (next => exact s2); intro v3 w3 o3 c3 _; have d3 := OwnR.chgApp o2 (Chg.refl Non w1 |>.non d2) (Nat.le_refl _) c3; have o1c := o1b.chg c3 (fun g hg e => by have h1 := (o1.lt hg).2; have h2 := (o2.lt (show v2.ownBlock = some g from e)).1; omega); have s3 := d3.size)
            | (obtain ⟨A1, e1, rfl, _, _, r1, _⟩ := o1c.open_; at_builtin; refine appR (K := rkN) rfl (.tmp 44) (.tmp 45) rfl o3 rfl r1 rfl (iv_one' _) ?_ ?_ ?_; (next => omega); (next => exact s3); intro v4 w4 o4 c4 _; have d4 := OwnR.chgApp o3 (d1.non d3) s1 c4))
          go_ret
          refine ⟨v4, k + 1 + (n - k), rfl, ?_, d4, fun b hb => .inr (by have := (o4.lt hb).1; omega)⟩
          rw [hst.out]
          have o5 := o4.mono (b2 := base) (by omega)
          simpa [iv] using o5
    · have hst := Lib.hid (rise_end hlt.out (by have := Hnl.out; omega))
      have hlo := Hsl.out k hk
      have hhi := Hsh.out k hk
      have hr1 : Rds w 1 (cutA A c k 1) (n - k) (iv (l.drop k)) := by
        have := hr.cutA hk hnc
        rw [show (iv l).drop (k * 1) = iv (l.drop k) by simp [iv]] at this
        exact this
      have hr2 : Rds w 1 A k (iv (l.take k)) := by
        have := hr.upto hk
        rw [show (iv l).take (k * 1) = iv (l.take k) by simp [iv]] at this
        exact this
      clear hlt
      go_wp2_with (first
        | (at_builtin; refine appR (K := rkN) rfl _ (.tmp 36) rfl (OwnR.nil rkN w w.heap.size) rfl hr1 rfl (iv_one' _) ?_ ?_ ?_; (next => omega); (next => exact Nat.le_refl _); intro v1 w1 o1 c1 _; have d1 := c1.mono (S2 := Non) (fun _ e => by cases e); simp only [Nat.zero_add, List.nil_append] at o1; clear c1; have s1 := d1.size)
        | (at_builtin; refine appR (K := rkN) rfl _ (.tmp 40) rfl (OwnR.nil rkN w1 w1.heap.size) rfl (hr2.non d1) rfl (iv_one' _) ?_ ?_ ?_; (next => omega); (next => exact Nat.le_refl _); intro v2 w2 o2 c2 _; have d2 := c2.mono (S2 := Non) (fun _ e => by cases e); simp only [Nat.zero_add, List.nil_append] at o2; clear c2; have s2 := d2.size; have o1b := o1.non d2)
        | (at_builtin; refine appR1 (K := rkN) rfl (.tmp 41) (.tmp 43) rfl o2 rfl (cs := #[.int .i64 x]) rfl rfl (iv_one' [x]) ?_ ?_ ?_; (next => omega); (next => exact s2); intro v3 w3 o3 c3 _; have d3 := OwnR.chgApp o2 (Chg.refl Non w1 |>.non d2) (Nat.le_refl _) c3; have o1c := o1b.chg c3 (fun g hg e => by have h1 := (o1.lt hg).2; have h2 := (o2.lt (show v2.ownBlock = some g from e)).1; omega); have s3 := d3.size)
        | (obtain ⟨A1, e1, rfl, _, _, r1, _⟩ := o1c.open_; at_builtin; refine appR (K := rkN) rfl (.tmp 44) (.tmp 45) rfl o3 rfl r1 rfl (iv_one' _) ?_ ?_ ?_; (next => omega); (next => exact s3); intro v4 w4 o4 c4 _; have d4 := OwnR.chgApp o3 (d1.non d3) s1 c4))
      go_ret
      refine ⟨v4, k + 1 + (n - k), rfl, ?_, d4, fun b hb => .inr (by have := (o4.lt hb).1; omega)⟩
      rw [hst.out]
      have o5 := o4.mono (b2 := base) (by omega)
      simpa [iv] using o5
theorem rise_any (w : World) (base : Nat) (v : Value) (n : Nat) (l : List Int) (x : Int) (h : OwnR rkN w base v n (iv l)) (hb : base ≤ w.heap.size) (hn : n ≤ 1000000) :
    Calls Try.prog 13 #[v, .int .i64 x] w (RisePost w base x l) :=
  (rise_own w base v n l x h hb hn).mono fun _ _ ⟨v2, n2, h1, h2, h3, _⟩ => ⟨v2, n2, h1, h2, h3⟩
end Go.Proofs.Ytdcfnhggedeeiaa
