/-
  gleanerref1.Put of a row of names of the call's own.
-/
import Derived.Test.YtflaliomkfbagaaNmPlain
import Derived.Test.YtflaliomkfbagaaRiseS
import Derived.Sort.Walk0
import Derived.Test.YtflaliomkfbagaaLaw
import Derived.Test.YtflaliomkfbagaaGet
import Derived.Test.YtflaliomkfbagaaIdentPlain
import Derived.Test.YtflaliomkfbagaaFlat
import Derived.Test.YtflaliomkfbagaaRow
import Derived.Laws.OwnMore
import Derived.Deep.MidRow
import Derived.Test.YtflaliomkfbagaaNoteMay
import Derived.Deep.Fields
namespace Go.Proofs.Ytflaliomkfbagaa
section
open Go.RowKit
set_option linter.unusedVariables false
set_option linter.unusedSimpArgs false

theorem less_ltS (a b : ByteArray) : Op.bytesLess a.toList b.toList = decide (ltS a b) := by
  rw [Go.Proofs.bytesLess_eq, ByteArray.toList_eq, ByteArray.toList_eq]
  rfl
theorem putS_split {x : ByteArray} : ∀ {l : List ByteArray} {k : Nat}, (∀ y ∈ l.take k, ltS y x) → riseS x l = l.take k ++ riseS x (l.drop k)
  | l, 0, _ => by simp
  | [], k + 1, _ => by simp
  | y :: l, k + 1, h => by
    have hy : ltS y x := h y (by simp)
    rw [List.take_succ_cons, List.drop_succ_cons, List.cons_append, ← putS_split (l := l) (k := k) fun z hz => h z (by simp [hz])]
    show (if ltS y x then _ else _) = _
    rw [if_pos hy]
theorem putS_at {x y : ByteArray} {l : List ByteArray} {k : Nat} (h : ∀ z ∈ l.take k, ltS z x) (hy : l[k]? = some y) (hn : ¬ ltS y x) (hne : y ≠ x) : riseS x l = l.take k ++ [x] ++ l.drop k := by
  have hk := List.getElem?_eq_some_iff.1 hy
  rw [putS_split h, List.drop_eq_getElem_cons hk.1, hk.2]
  show l.take k ++ (if ltS y x then _ else if y = x then _ else _) = _
  rw [if_neg hn, if_neg hne]
  simp
theorem putS_has {y : ByteArray} {l : List ByteArray} {k : Nat} (h : ∀ z ∈ l.take k, ltS z y) (hy : l[k]? = some y) : riseS y l = l := by
  have hk := List.getElem?_eq_some_iff.1 hy
  rw [putS_split h, List.drop_eq_getElem_cons hk.1, hk.2]
  show l.take k ++ (if ltS y y then _ else if y = y then y :: l.drop (k + 1) else _) = _
  rw [if_neg (ltS_irrefl y), if_pos rfl, ← hk.2, ← List.drop_eq_getElem_cons hk.1, List.take_append_drop]
theorem putS_end {x : ByteArray} {l : List ByteArray} {k : Nat} (h : ∀ z ∈ l.take k, ltS z x) (hk : l.length ≤ k) : riseS x l = l.take k ++ [x] ++ l.drop k := by
  rw [putS_split h, List.drop_of_length_le hk]
  simp [riseS]
theorem takeS_lt {x y : ByteArray} {l : List ByteArray} {k : Nat} (h : ∀ z ∈ l.take k, ltS z x) (hy : l[k]? = some y) (hxy : ltS y x) : ∀ z ∈ l.take (k + 1), ltS z x := by
  intro z hz
  rw [List.take_add_one, hy] at hz
  rcases List.mem_append.1 hz with hz | hz
  · exact h z hz
  · simp at hz
    subst hz
    exact hxy

/-- What Put answers. -/
def PutSPost (w : World) (base : Nat) (v : Value) (x : ByteArray) (l : List ByteArray) (e : Ending) (w2 : World) : Prop :=
  ∃ v2 n2, e = .returned v2 ∧ OwnR rkI w2 base v2 n2 (sv (riseS x l)) ∧ Chg Non w w2 ∧ ∀ b, v2.ownBlock = some b → v.ownBlock = some b ∨ w.heap.size ≤ b

set_option maxRecDepth 100000 in
set_option maxHeartbeats 4000000 in
theorem putS_any (w : World) (base : Nat) (v : Value) (n : Nat) (l : List ByteArray) (x : ByteArray) (h : OwnR rkI w base v n (sv l)) (hb : base ≤ w.heap.size) (hn : n ≤ 1000000) :
    Calls Try.prog 46 #[v, .string x] w (PutSPost w base v x l) := by
  have Hown := Lib.hid h
  obtain ⟨A, c, rfl, hnc, hcm, hr, _⟩ := h.open_
  have Hnl := Lib.hid hr.lenMap
  have hsl := fun (k : Nat) (hk : k ≤ n) w => run_slice_lo (P := Try.prog) Try.underlying30 1 (by kernel_rfl) (by kernel_rfl) (kl := .i64) (i := (k : Int)) (k := k) (n := n) rfl hk A c w
  have hsh := fun (k : Nat) (hk : k ≤ n) w => run_slice_hi (P := Try.prog) Try.underlying30 (by kernel_rfl) (kl := .i64) (i := (k : Int)) (k := k) (c := c) rfl (by omega) A n w
  have Hsl := Lib.hid hsl
  have Hsh := Lib.hid hsh
  clear h hsl hsh
  go_enter Try.func46, Try.ntmps46
  go_wp2_with fail
  go_loop [5] (fun i => ∃ k : Nat, k ≤ n ∧ i = .int .i64 k ∧ Hid (∀ z ∈ l.take k, ltS z x)) (fun i => n - (intOf i).toNat)
  case atStart => exact ⟨0, Nat.zero_le _, rfl, (by intro z hz; simp at hz)⟩
  case round =>
    obtain ⟨k, hk, rfl, hlt⟩ := hrel
    by_cases hkn : k < n
    · obtain ⟨ad, y, hA, hy, hcell⟩ := hr.getS hkn
      by_cases h1 : ltS y x
      · have hlt2 := Lib.hid (takeS_lt hlt.out hy h1)
        have hb1 : Op.bytesLess y.toList x.toList = true := by rw [less_ltS]; exact decide_eq_true h1
        clear hy h1
        subst hA
        go_wp2_with fail
        go_round
        case rel => exact ⟨k + 1, by omega, by go_num, hlt2⟩
        case measure => simp [intOf]; omega
      · have hb1 : Op.bytesLess y.toList x.toList = false := by rw [less_ltS]; exact decide_eq_false h1
        by_cases h2 : y = x
        · subst h2
          have hst := Lib.hid (putS_has hlt.out hy)
          clear hy h1
          subst hA
          go_wp2_with fail
          go_ret
          exact ⟨_, n, rfl, by rw [hst.out]; exact Hown.out, Chg.refl _ _, fun b hb => .inl hb⟩
        · have hst := Lib.hid (putS_at hlt.out hy h1 h2)
          have hne : (y.toList == x.toList) = false := str_ne h2
          have hlo := Hsl.out k hk
          have hhi := Hsh.out k hk
          have hr1 : Rds w 1 (cutA A c k 1) (n - k) (sv (l.drop k)) := by
            have := hr.cutA hk hnc
            rw [show (sv l).drop (k * 1) = sv (l.drop k) by simp [sv]] at this
            exact this
          have hr2 : Rds w 1 A k (sv (l.take k)) := by
            have := hr.upto hk
            rw [show (sv l).take (k * 1) = sv (l.take k) by simp [sv]] at this
            exact this
          clear hy hlt h1 h2
          subst hA
          go_wp2_with (first
            | (at_builtin; refine appR (K := rkI) rfl _ (.tmp 36) rfl (OwnR.nil rkI w w.heap.size) rfl hr1 rfl (svI_one _) ?_ ?_ ?_; (next => omega); (next => exact Nat.le_refl _); intro v1 w1 o1 c1 _; have d1 := c1.mono (S2 := Non) (fun _ e => by cases e); simp only [Nat.zero_add, List.nil_append] at o1; clear c1; have s1 := d1.size)
            | (at_builtin; refine appR (K := rkI) rfl _ (.tmp 40) rfl (OwnR.nil rkI w1 w1.heap.size) rfl (hr2.non d1) rfl (svI_one _) ?_ ?_ ?_; (next => omega); (next => exact Nat.le_refl _); intro v2 w2 o2 c2 _; have d2 := c2.mono (S2 := Non) (fun _ e => by cases e); simp only [Nat.zero_add, List.nil_append] at o2; clear c2; have s2 := d2.size; have o1b := o1.non d2)
            | (at_builtin; refine appR1 (K := rkI) rfl (.tmp 41) (.tmp 43) rfl o2 rfl (cs := #[.string x]) rfl rfl (svI_one [x]) ?_ ?_ ?_; (next => omega); (next => exact s2); intro v3 w3 o3 c3 _; have d3 := OwnR.chgApp o2 (Chg.refl Non w1 |>.non d2) (Nat.le_refl _) c3; have o1c := o1b.chg c3 (fun g hg e => by have h1 := (o1.lt hg).2; have h2 := (o2.lt (show v2.ownBlock = some g from e)).1; omega); have s3 := d3.size)
            | (obtain ⟨A1, e1, rfl, _, _, r1, _⟩ := o1c.open_; at_builtin; refine appR (K := rkI) rfl (.tmp 44) (.tmp 45) rfl o3 rfl r1 rfl (svI_one _) ?_ ?_ ?_; (next => omega); (next => exact s3); intro v4 w4 o4 c4 _; have d4 := OwnR.chgApp o3 (d1.non d3) s1 c4))
          go_ret
          refine ⟨v4, k + 1 + (n - k), rfl, ?_, d4, fun b hb => .inr (by have := (o4.lt hb).1; omega)⟩
          rw [hst.out]
          have o5 := o4.mono (b2 := base) (by omega)
          simpa [sv] using o5
    · have hst := Lib.hid (putS_end hlt.out (by have := Hnl.out; omega))
      have hlo := Hsl.out k hk
      have hhi := Hsh.out k hk
      have hr1 : Rds w 1 (cutA A c k 1) (n - k) (sv (l.drop k)) := by
        have := hr.cutA hk hnc
        rw [show (sv l).drop (k * 1) = sv (l.drop k) by simp [sv]] at this
        exact this
      have hr2 : Rds w 1 A k (sv (l.take k)) := by
        have := hr.upto hk
        rw [show (sv l).take (k * 1) = sv (l.take k) by simp [sv]] at this
        exact this
      clear hlt
      go_wp2_with (first
        | (at_builtin; refine appR (K := rkI) rfl _ (.tmp 36) rfl (OwnR.nil rkI w w.heap.size) rfl hr1 rfl (svI_one _) ?_ ?_ ?_; (next => omega); (next => exact Nat.le_refl _); intro v1 w1 o1 c1 _; have d1 := c1.mono (S2 := Non) (fun _ e => by cases e); simp only [Nat.zero_add, List.nil_append] at o1; clear c1; have s1 := d1.size)
        | (at_builtin; refine appR (K := rkI) rfl _ (.tmp 40) rfl (OwnR.nil rkI w1 w1.heap.size) rfl (hr2.non d1) rfl (svI_one _) ?_ ?_ ?_; (next => omega); (next => exact Nat.le_refl _); intro v2 w2 o2 c2 _; have d2 := c2.mono (S2 := Non) (fun _ e => by cases e); simp only [Nat.zero_add, List.nil_append] at o2; clear c2; have s2 := d2.size; have o1b := o1.non d2)
        | (at_builtin; refine appR1 (K := rkI) rfl (.tmp 41) (.tmp 43) rfl o2 rfl (cs := #[.string x]) rfl rfl (svI_one [x]) ?_ ?_ ?_; (next => omega); (next => exact s2); intro v3 w3 o3 c3 _; have d3 := OwnR.chgApp o2 (Chg.refl Non w1 |>.non d2) (Nat.le_refl _) c3; have o1c := o1b.chg c3 (fun g hg e => by have h1 := (o1.lt hg).2; have h2 := (o2.lt (show v2.ownBlock = some g from e)).1; omega); have s3 := d3.size)
        | (obtain ⟨A1, e1, rfl, _, _, r1, _⟩ := o1c.open_; at_builtin; refine appR (K := rkI) rfl (.tmp 44) (.tmp 45) rfl o3 rfl r1 rfl (svI_one _) ?_ ?_ ?_; (next => omega); (next => exact s3); intro v4 w4 o4 c4 _; have d4 := OwnR.chgApp o3 (d1.non d3) s1 c4))
      go_ret
      refine ⟨v4, k + 1 + (n - k), rfl, ?_, d4, fun b hb => .inr (by have := (o4.lt hb).1; omega)⟩
      rw [hst.out]
      have o5 := o4.mono (b2 := base) (by omega)
      simpa [sv] using o5
end

section
open Go.RowKit
set_option linter.unusedVariables false

theorem refValid_any (s : ByteArray) (w : World) (hs : s.size ≤ 9223372036854775807) :
    Calls Try.prog 43 #[.string s] w fun e w2 => e = .returned (.bool (vid s)) ∧ w = w2 := by
  go_enter Try.func43, Try.ntmps43
  go_wp2_with fail
  go_loop [3] (fun i => ∃ k : Nat, k ≤ s.size ∧ k ≤ 13 ∧ i = .int .i64 k ∧ Hid ((s.data.toList.take k).all okD = true)) (fun i => s.size - (intOf i).toNat)
  case atStart => exact ⟨0, Nat.zero_le _, by omega, rfl, rfl⟩
  case round =>
    obtain ⟨k, hk, hk13, rfl, hall⟩ := hrel
    by_cases hlt : k < s.size
    · by_cases h13 : k ≤ 12
      · have hst := take_step s hlt
        have hmem := List.mem_of_getElem? (get_list s hlt)
        by_cases hb : s[k].toNat < 16
        · have hall2 : Hid ((s.data.toList.take (k + 1)).all okD = true) := by
            show _ = _
            rw [hst, List.all_append, hall.out]
            simp [okD, hb]
          clear hst hmem hall
          go_wp2_with fail
          go_round
          case rel => exact ⟨k + 1, by omega, by omega, by go_num, hall2⟩
          case measure => simp [intOf]; omega
        · have hno : vid s = false := by
            unfold vid
            rw [Bool.and_eq_false_iff]
            right
            rw [List.all_eq_false]
            exact ⟨s[k], hmem, by simp [okD]; omega⟩
          have Hno := Lib.hid hno
          clear hst hmem hall hno
          go_wp2_with fail
          go_ret
          exact ⟨by rw [Hno.out]; rfl, rfl⟩
      · have hno : vid s = false := by
          unfold vid
          rw [Bool.and_eq_false_iff]
          left
          simp; omega
        have Hno := Lib.hid hno
        have d1 : decide ((s.size : Int) ≤ 12) = false := by simp; omega
        clear hall hno
        go_wp2_with fail
        go_ret
        exact ⟨by rw [Hno.out]; first | rfl | (rw [← d1]; rfl), rfl⟩
    · have hks : k = s.size := by omega
      have hyes : vid s = decide (s.size ≤ 12) := by
        unfold vid
        have := hall.out
        rw [hks, take_whole] at this
        rw [this, Bool.and_true]
      have Hyes := Lib.hid hyes
      clear hyes hall
      go_wp2_with fail
      go_ret
      refine ⟨?_, rfl⟩
      rw [Hyes.out]
      show Ending.returned (.bool (decide ((s.size : Int) ≤ 12))) = _
      congr 2
      rw [decide_eq_decide]
      omega
end

section
open Go.RowKit
set_option linter.unusedVariables false

theorem flat_set {α : Type} {f : α → List Value} {m : Nat} (hf : ∀ x, (f x).length = m) : ∀ (L : List α) (k : Nat) (x y : α) (j : Nat) (u : Value), L[k]? = some x → j < m → f y = (f x).set j u → (L.flatMap f).set (k * m + j) u = (L.set k y).flatMap f
  | [], k, x, y, j, u, h, _, _ => by simp at h
  | z :: L, 0, x, y, j, u, h, hj, he => by
    simp at h
    subst h
    rw [List.set_cons_zero, List.flatMap_cons, List.flatMap_cons, Nat.zero_mul, Nat.zero_add, List.set_append_left _ _ (by rw [hf]; exact hj), he]
  | z :: L, k + 1, x, y, j, u, h, hj, he => by
    have h2 : L[k]? = some x := by simpa using h
    rw [List.set_cons_succ, List.flatMap_cons, List.flatMap_cons, List.set_append_right _ _ (by rw [hf, Nat.succ_mul]; omega), hf, show (k + 1) * m + j - m = k * m + j by rw [Nat.succ_mul]; omega, flat_set hf L k x y j u h2 hj he]

section
variable {P : Program} {K : RowKind P} {w : World} {base g n c : Nat} {xs : List Value}
/-- A cell of a row of the call's own is written. -/
theorem OwnR.put (h : OwnR K w base (.slice (some ⟨g, 0, none⟩) n c) n xs) (j : Nat) (u : Value) : OwnR K (w.setCell ⟨g, j, none⟩ u) base (.slice (some ⟨g, 0, none⟩) n c) n (xs.set j u) := (World.ownsRow.stored h j u).1
theorem OwnR.cell (h : OwnR K w base (.slice (some ⟨g, 0, none⟩) n c) n xs) {j : Nat} {u : Value} (hu : xs[j]? = some u) : w.cell? ⟨g, j, none⟩ = some u := by
  have hl := (List.getElem?_eq_some_iff.1 hu).1
  rw [h.len] at hl
  rw [World.ownsRow.cellAt h j hl, hu]
theorem OwnR.frozen (h : OwnR K w base (.slice (some ⟨g, 0, none⟩) n c) n xs) (j : Nat) : w.frozen? ⟨g, j, none⟩ = false := World.ownsRow.frozenAt h j
theorem OwnR.form {v : Value} (h : OwnR K w base v n xs) (h0 : 0 < n) : ∃ g c, v = .slice (some ⟨g, 0, none⟩) n c ∧ n ≤ c ∧ c ≤ maxLen ∧ base ≤ g ∧ g < w.heap.size := by
  rcases h.2 with ⟨rfl, rfl⟩ | ⟨g, cap, cur, rfl, hb, hg, h1, h2, _⟩
  · omega
  · exact ⟨g, cap, rfl, h1, h2, hb, (Array.getElem?_eq_some_iff.1 hg).1⟩
/-- Elements of several cells: one cell of one of them. -/
theorem OwnR.cellN {α : Type} {f : α → List Value} (hf : ∀ x, (f x).length = K.size) {L : List α} (h : OwnR K w base (.slice (some ⟨g, 0, none⟩) n c) n (L.flatMap f)) {k : Nat} {x : α} (hx : L[k]? = some x) {j : Nat} {u : Value} (hj : (f x)[j]? = some u) : w.cell? ⟨g, k * K.size + j, none⟩ = some u :=
  h.cell (by rw [flat_get hf L k x hx j (by have := (List.getElem?_eq_some_iff.1 hj).1; rwa [hf] at this)]; exact hj)
theorem OwnR.putN {α : Type} {f : α → List Value} (hf : ∀ x, (f x).length = K.size) {L : List α} (h : OwnR K w base (.slice (some ⟨g, 0, none⟩) n c) n (L.flatMap f)) {k : Nat} {x : α} (y : α) (hx : L[k]? = some x) {j : Nat} {u : Value} (hj : j < K.size) (hy : f y = (f x).set j u) : OwnR K (w.setCell ⟨g, k * K.size + j, none⟩ u) base (.slice (some ⟨g, 0, none⟩) n c) n ((L.set k y).flatMap f) := by
  rw [← flat_set hf L k x y j u hx hj hy]
  exact h.put _ _
theorem OwnR.lenF {α : Type} {f : α → List Value} (hf : ∀ x, (f x).length = K.size) {v : Value} {L : List α} (h : OwnR K w base v n (L.flatMap f)) : n = L.length := by
  have := h.len
  rw [flat_len hf] at this
  exact (Nat.eq_of_mul_eq_mul_right K.hs this).symm
/-- An element's cells are there, and may be written. -/
theorem OwnR.there (h : OwnR K w base (.slice (some ⟨g, 0, none⟩) n c) n xs) {k : Nat} (hk : k < n) : w.there g (k * K.size) K.size := fun j hj => by
  have hl : k * K.size + j < xs.length := by
    rw [h.len]
    have := Nat.mul_le_mul_right K.size (show k + 1 ≤ n from hk)
    rw [Nat.succ_mul] at this
    omega
  exact ⟨by rw [h.cell (List.getElem?_eq_getElem hl)]; rfl, h.frozen _⟩
end
end

section
open Go.RowKit
set_option linter.unusedVariables false

section
variable {P : Program} {K : RowKind P} {w : World} {base n : Nat} {v : Value} {xs : List Value} {ops : Array Oper} {rest : List Oper} {o : Oper} {a : Act} {Q : Exit → Act → World → Prop}
theorem appRn (hgd : o.guard = none) (x : Operand) (ho : o.op = .call { callee := .builtin .append, args := #[.const (.slice none 0 0), x], argTypes := #[K.t, K.t] })
    {A : Option Addr} {m c : Nat} {news : List Value} (hr : Rds w K.size A m news) (hx : a.eval x = .slice A m c) (h1 : ∀ u ∈ news, u.oneCell' = true) (hb : m ≤ 1099511627776)
    (h : ∀ A2 c2 w2, OwnR K w2 w.heap.size (.slice A2 m c2) m news → Chg Non w w2 → wpList P ops Q rest (a.put o.dst (.slice A2 m c2)) w2) : wpList P ops Q (o :: rest) a w := by
  refine appR hgd _ x ho (OwnR.nil K w w.heap.size) rfl hr hx h1 (by omega) (Nat.le_refl _) fun v2 w2 h2 h3 _ => ?_
  simp only [Nat.zero_add, List.nil_append] at h2
  obtain ⟨A2, c2, rfl, _⟩ := h2.open_
  exact h A2 c2 w2 h2 (h3.mono fun _ e => by cases e)
theorem appRs (hgd : o.guard = none) (s x : Operand) (ho : o.op = .call { callee := .builtin .append, args := #[s, x], argTypes := #[K.t, K.t] })
    (hown : OwnR K w base v n xs) (hs : a.eval s = v) {A : Option Addr} {m c : Nat} {news : List Value} (hr : Rds w K.size A m news) (hx : a.eval x = .slice A m c) (h1 : ∀ u ∈ news, u.oneCell' = true)
    (hb : n + m ≤ 1099511627776) (hbase : base ≤ w.heap.size)
    (h : ∀ A2 c2 w2, OwnR K w2 base (.slice A2 (n + m) c2) (n + m) (xs ++ news) → Chg (fun g => v.ownBlock = some g) w w2 → (∀ b, (Value.slice A2 (n + m) c2).ownBlock = some b → v.ownBlock = some b ∨ w.heap.size ≤ b) → wpList P ops Q rest (a.put o.dst (.slice A2 (n + m) c2)) w2) : wpList P ops Q (o :: rest) a w := by
  refine appR hgd s x ho hown hs hr hx h1 hb hbase fun v2 w2 h2 h3 h4 => ?_
  obtain ⟨A2, c2, rfl, _⟩ := h2.open_
  refine h A2 c2 w2 h2 h3 fun b hb => ?_
  rcases h4 with h4 | h4
  · exact .inl (h4 ▸ hb)
  · rw [h4] at hb
    exact .inr (Nat.le_of_eq (Option.some.inj hb))
theorem appR1s (hgd : o.guard = none) (s x : Operand) (ho : o.op = .call { callee := .builtin .append, args := #[s, x], argTypes := #[K.t, K.t] })
    (hown : OwnR K w base v n xs) (hs : a.eval s = v) {c : Nat} {cs : Array Value} (hcs : cs.size = K.size) (hx : a.eval x = .slice (some ⟨w.heap.size, 0, none⟩) 1 c) (h1 : ∀ u ∈ cs.toList, u.oneCell' = true)
    (hb : n + 1 ≤ 1099511627776) (hbase : base ≤ w.heap.size)
    (h : ∀ A2 c2 w2, OwnR K w2 base (.slice A2 (n + 1) c2) (n + 1) (xs ++ cs.toList) → Chg (fun g => v.ownBlock = some g) w w2 → (∀ b, (Value.slice A2 (n + 1) c2).ownBlock = some b → v.ownBlock = some b ∨ w.heap.size ≤ b) → wpList P ops Q rest (a.put o.dst (.slice A2 (n + 1) c2)) w2) : wpList P ops Q (o :: rest) a (w.alloc (.cells cs K.e)) := by
  refine appR1 hgd s x ho hown hs hcs hx h1 hb hbase fun v2 w2 h2 h3 h4 => ?_
  obtain ⟨A2, c2, rfl, _⟩ := h2.open_
  refine h A2 c2 w2 h2 h3 fun b hb => ?_
  rcases h4 with h4 | h4
  · exact .inl (h4 ▸ hb)
  · rw [h4] at hb
    exact .inr (by have := Option.some.inj hb; omega)
end
end

section
open Go.RowKit
set_option linter.unusedVariables false
set_option linter.unusedSimpArgs false

theorem addr_add0 (a : Addr) : a.add 0 = a := by cases a; rfl
theorem quietW {P : Program} {f : FuncId} {args : Array Value} {w : World} {n : Nat} {v : Value}
    (h : Calls P f args (w.drewN n) fun e w' => e = .returned v ∧ w.drewN n = w') : Calls P f args (w.drewN n) fun e w'' => e = .returned v ∧ ∃ m, w'' = w.drewN m :=
  h.mono fun _ _ ⟨he, hm⟩ => ⟨he, n, hm.symm⟩

/-- The member ahead of place k. -/
def lastM (L : List Mb) (k : Nat) : Int := match k with | 0 => -1 | j + 1 => (L[j]?.map (·.1)).getD 0
theorem lastM_succ {L : List Mb} {k : Nat} {m : Mb} (h : L[k]? = some m) : lastM L (k + 1) = m.1 := by show (L[k]?.map (·.1)).getD 0 = _; rw [h]; rfl
theorem lastM_cons (x : Mb) (L : List Mb) (k : Nat) : lastM (x :: L) (k + 2) = lastM L (k + 1) := rfl
theorem memsB_snoc (m : Mb) : ∀ (l : List Mb) (a : Int), memsB a (l ++ [m]) = (memsB a l && (decide ((l.getLast?.map (·.1)).getD a < m.1) && upto 15 m.1 && upto great m.2))
  | [], a => by simp only [List.nil_append, memsB, Bool.and_true, List.getLast?_nil, Option.map_none, Option.getD_none, Bool.true_and]; rfl
  | [x], a => by simp only [List.cons_append, List.nil_append, memsB, Bool.and_true, List.getLast?_singleton, Option.map_some, Option.getD_some, Bool.and_assoc]; rfl
  | x :: y :: l, a => by
    have ih := memsB_snoc m (y :: l) x.1
    show (decide (a < x.1) && upto 15 x.1 && upto great x.2 && memsB x.1 ((y :: l) ++ [m])) = _
    rw [ih, List.getLast?_cons_cons]
    have e : memsB a (x :: y :: l) = (decide (a < x.1) && upto 15 x.1 && upto great x.2 && memsB x.1 (y :: l)) := rfl
    rw [e]
    have e2 : (((y :: l).getLast?.map (·.1)).getD x.1) = (((y :: l).getLast?.map (·.1)).getD a) := by rw [List.getLast?_eq_some_getLast (l := y :: l) (by simp)]; rfl
    rw [e2]
    simp only [Bool.and_assoc]
theorem last_take {L : List Mb} {k : Nat} (hk : k ≤ L.length) : ((L.take k).getLast?.map (·.1)).getD (-1) = lastM L k := by
  cases k with
  | zero => rfl
  | succ j =>
    have h : L[j]? = some L[j] := List.getElem?_eq_getElem (by omega)
    have h9 : lastM L (j + 1) = L[j].1 := lastM_succ h
    rw [h9, List.take_add_one, h]
    show ((L.take j ++ [L[j]]).getLast?.map (·.1)).getD (-1) = _
    rw [List.getLast?_concat]
    rfl
/-- The test so far. -/
theorem memsB_take {L : List Mb} {k : Nat} {m : Mb} (h : L[k]? = some m) : memsB (-1) (L.take (k + 1)) = (memsB (-1) (L.take k) && (decide (lastM L k < m.1) && upto 15 m.1 && upto great m.2)) := by
  have hk := (List.getElem?_eq_some_iff.1 h).1
  rw [List.take_add_one, h]
  show memsB (-1) (L.take k ++ [m]) = _
  rw [memsB_snoc, last_take (by omega)]
end

section
open Go.ChangeShapes Go.WideShapes Go.ChangeAt Go.RowKit Go.Deep
set_option linter.unusedVariables false

section
variable {P : Program} {w : World} {t : TypeId} {cs : List Value}
theorem Rd.struct {fs : Array Field} (ht : P.underlying t = some (.struct fs)) (hone : oneCellFields P fs = true) (h : Rd P w t cs) :
    cs.length = P.cellsOf t ∧ ∀ (i : Nat) (f : Field), fs[i]? = some f → ∀ u, cs[i]? = some u → Rd P w f.type [u] := by
  obtain ⟨H, enc, base, spare, held, fuel, x, h⟩ := h
  obtain ⟨xs, n, _, _, hl, hxl, hg⟩ := DataW.trod_struct ht h
  refine ⟨hl, fun i f hf u hu => ?_⟩
  obtain ⟨ho, hk⟩ := hone_of hone i f hf
  have h1 := hg i f hf
  rw [ho, hk] at h1
  have hi := (List.getElem?_eq_some_iff.1 hu).1
  have e : (cs.drop i).take 1 = [u] := by
    rw [List.drop_eq_getElem_cons hi]
    simp only [List.take_succ_cons, List.take_zero]
    rw [(List.getElem?_eq_some_iff.1 hu).2]
  rw [e] at h1
  have hxi : i < xs.length := by rw [hxl]; exact (Array.getElem?_eq_some_iff.1 hf).1
  rw [List.getElem?_eq_getElem hxi] at h1
  exact ⟨H, enc, base, spare, held, n, _, h1⟩
end

theorem list_of {α : Type} {Q : Nat → α → Prop} : ∀ (n : Nat), (∀ i, i < n → ∃ x, Q i x) → ∃ X : List α, X.length = n ∧ ∀ i x, X[i]? = some x → Q i x
  | 0, _ => ⟨[], rfl, fun i x h => by simp at h⟩
  | n + 1, h => by
    obtain ⟨X, hX, hQ⟩ := list_of n fun i hi => h i (by omega)
    obtain ⟨x, hx⟩ := h n (by omega)
    refine ⟨X ++ [x], by simp [hX], fun i y hy => ?_⟩
    rcases Nat.lt_or_ge i n with hi | hi
    · rw [List.getElem?_append_left (by omega)] at hy
      exact hQ i y hy
    · have hi2 := (List.getElem?_eq_some_iff.1 hy).1
      simp at hi2
      obtain rfl : i = n := by omega
      rw [List.getElem?_append_right (by omega)] at hy
      simp [hX] at hy
      subst hy
      exact hx

/-- A row: what its elements are, each as its cells. -/
theorem Rd.rows {P : Program} {w : World} {t e : TypeId} {cs : List Value} {α : Type} {f : α → List Value} {m : Nat} {Q : α → Prop} (ht : P.underlying t = some (.slice e)) (hc : P.cellsOf e = m) (hf : ∀ x, (f x).length = m)
    (he : ∀ l, l.length = m → Rd P w e l → ∃ x, l = f x ∧ Q x) (h : Rd P w t cs) :
    ∃ A n c, ∃ L : List α, cs = [.slice A n c] ∧ n ≤ c ∧ c ≤ maxLen ∧ Rds w m A n (L.flatMap f) ∧ ∀ x ∈ L, Q x := by
  obtain ⟨A, n, c, rfl, h1, h2, h3⟩ := h.slice ht
  rw [hc] at h3
  rcases Nat.eq_zero_or_pos n with h0 | h0
  · subst h0
    exact ⟨A, 0, c, [], rfl, h1, h2, Rds.nil_, by simp⟩
  · obtain ⟨ad, rfl, hq⟩ := h3 h0
    obtain ⟨L, hL, hQ⟩ := list_of (Q := fun i (x : α) => (∀ j u, (f x)[j]? = some u → w.cell? (ad.add (i * m + j)) = some u) ∧ Q x) n fun i hi => by
      obtain ⟨l, hl1, hl2, hl3⟩ := hq i hi
      obtain ⟨x, rfl, hx⟩ := he l hl1 hl3
      exact ⟨x, fun j u hu => by rw [← add_add]; exact hl2 j u hu, hx⟩
    refine ⟨some ad, n, c, L, rfl, h1, h2, ⟨by rw [flat_len hf, hL], fun _ => ⟨ad, rfl, fun j u hu => ?_⟩⟩, fun x hx => ?_⟩
    · have hm : 0 < m := by
        rcases Nat.eq_zero_or_pos m with h | h
        · have := (List.getElem?_eq_some_iff.1 hu).1
          rw [flat_len hf, h, Nat.mul_zero] at this
          omega
        · exact h
      have hjl := (List.getElem?_eq_some_iff.1 hu).1
      rw [flat_len hf, hL] at hjl
      have hd : j / m < L.length := by rw [hL]; exact Nat.div_lt_of_lt_mul (by rw [Nat.mul_comm]; exact hjl)
      have hj : j = j / m * m + j % m := by rw [Nat.mul_comm]; exact (Nat.div_add_mod j m).symm
      have hx := List.getElem?_eq_getElem hd
      rw [hj, flat_get hf L _ _ hx _ (Nat.mod_lt _ hm)] at hu
      rw [hj]
      exact (hQ _ _ hx).1 _ _ hu
    · obtain ⟨i, hi⟩ := List.getElem?_of_mem hx
      exact (hQ i x hi).2
end

section
open Go.RowKit
set_option linter.unusedVariables false
set_option linter.unusedSimpArgs false

theorem take_same {α : Type} {l m : List α} {k : Nat} {x y : α} (hl : l[k]? = some x) (hm : m[k]? = some y) (h : l.take k = m.take k) : l.take (k + 1) = m.take (k + 1) ↔ x = y := by
  rw [List.take_add_one, List.take_add_one, h, hl, hm]
  simp
theorem not_same {α : Type} {l m : List α} {k : Nat} {x y : α} (hl : l[k]? = some x) (hm : m[k]? = some y) (h : x ≠ y) : l ≠ m := by
  rintro rfl
  rw [hl] at hm
  exact h (Option.some.inj hm)

set_option maxRecDepth 100000 in
set_option maxHeartbeats 1000000 in
theorem sameInts_any (w : World) (A : Option Addr) (n c : Nat) (l : List Int) (B : Option Addr) (m d : Nat) (l2 : List Int) (h1 : Rds w 1 A n (iv l)) (h2 : Rds w 1 B m (iv l2)) (hn : n ≤ 9223372036854775807) :
    Calls Try.prog 49 #[.slice A n c, .slice B m d] w fun e w2 => e = .returned (.bool (l == l2)) ∧ Chg Non w w2 := by
  have H1 := Lib.hid h1
  have H2 := Lib.hid h2
  have Hl := Lib.hid h1.lenMap
  have Hm := Lib.hid h2.lenMap
  clear h1 h2
  by_cases hnm : n = m
  · subst hnm
    go_enter Try.func49, Try.ntmps49
    go_wp2_with fail
    go_loopw [5] (fun i wr => ∃ k : Nat, k ≤ n ∧ i = .int .i64 k ∧ Hid (l.take k = l2.take k) ∧ Chg Non w wr) (fun i _ => n - (intOf i).toNat)
    case atStart => exact ⟨0, Nat.zero_le _, rfl, rfl, Chg.refl _ _⟩
    case round =>
      obtain ⟨k, hk, rfl, hs, hC⟩ := hrel
      by_cases hlt : k < n
      · obtain ⟨ad, x, rfl, hx, hcx⟩ := H1.out.getI hlt
        obtain ⟨bd, y, rfl, hy, hcy⟩ := H2.out.getI hlt
        have hsame := take_same hx hy hs.out
        replace hcx := hC.cell hcx id
        replace hcy := hC.cell hcy id
        cases hxy : (x != y) with
        | false =>
          have hs2 : Hid (l.take (k + 1) = l2.take (k + 1)) := hsame.2 (by simpa using hxy)
          clear hx hy hsame
          go_wp2_with fail
          go_quiet (fail)
          go_wp2_with fail
          go_roundw
          case rel => exact ⟨k + 1, by omega, by go_num, hs2, hC.drewN _⟩
          case measure => simp [intOf]; omega
        | true =>
          have hno : Hid ((l == l2) = false) := beq_eq_false_iff_ne.2 (not_same hx hy (by simpa using hxy))
          clear hx hy hsame
          go_wp2_with fail
          go_quiet (fail)
          go_wp2_with fail
          go_ret
          exact ⟨by rw [hno.out]; rfl, hC.drewN _⟩
      · obtain rfl : k = n := by omega
        have hyes : Hid ((l == l2) = true) := by
          show _ = _
          have := hs.out
          rw [List.take_of_length_le (by have := Hl.out; omega), List.take_of_length_le (by have := Hm.out; omega)] at this
          rw [this]
          simp
        go_wp2_with fail
        go_ret
        exact ⟨by rw [hyes.out]; rfl, hC⟩
  · have hne : ((n : Int) != (m : Int)) = true := by rw [bne_iff_ne]; omega
    have hno : Hid ((l == l2) = false) := beq_eq_false_iff_ne.2 (fun e => hnm (by have := Hl.out; have := Hm.out; rw [e] at Hl; have := Hl.out; omega))
    go_enter Try.func49, Try.ntmps49
    go_wp2_with fail
    go_ret
    exact ⟨by rw [hno.out]; rfl, Chg.refl _ _⟩
end

section
open Go.RowKit
set_option linter.unusedVariables false
set_option linter.unusedSimpArgs false

/-- Are two notes one? -/
def sameN (a b : Nt) : Bool :=
  a.kind == b.kind && a.node == b.node && a.life == b.life && a.epoch == b.epoch && a.id.data.toList == b.id.data.toList && a.fn == b.fn && a.err == b.err && a.val == b.val && a.vep == b.vep && a.args == b.args && a.mems == b.mems
theorem sameN_iff {a b : Nt} : sameN a b = true ↔ a = b := by
  constructor
  · intro h
    unfold sameN at h
    simp only [Bool.and_eq_true, beq_iff_eq] at h
    obtain ⟨⟨⟨⟨⟨⟨⟨⟨⟨⟨h1, h2⟩, h3⟩, h4⟩, h5⟩, h6⟩, h7⟩, h8⟩, h9⟩, h10⟩, h11⟩ := h
    cases a; cases b
    simp only at *
    subst h1 h2 h3 h4 h6 h7 h8 h9 h10 h11
    congr 1
    exact ByteArray.ext (Array.toList_inj.1 h5)
  · rintro rfl
    simp [sameN]
theorem sameN_self (a : Nt) : sameN a a = true := sameN_iff.2 rfl
theorem sameN_ne {a b : Nt} (h : a ≠ b) : sameN a b = false := by
  cases h2 : sameN a b with
  | false => rfl
  | true => exact absurd (sameN_iff.1 h2) h

theorem neq_mem (x y : Mb) (h : x ≠ y) (w : World) : (binOp .neq 116 (.agg #[.int .i64 x.1, .int .i64 x.2]) (.agg #[.int .i64 y.1, .int .i64 y.2])).run Try.prog w = .ok (.bool true) w := by
  go_simp
  intro e1 e2
  exact h (Prod.ext e1 e2)

set_option maxRecDepth 100000 in
set_option maxHeartbeats 8000000 in
theorem same_rows (w : World) (a0 a1 a2 a3 : Int) (a4 : ByteArray) (a5 a7 a8 a9 : Int) (A : Option Addr) (k c : Nat) (B : Option Addr) (m d : Nat) (A2 : Option Addr) (k2 c2 : Nat) (B2 : Option Addr) (d2 : Nat) (l1 l2 : List Int) (L1 L2 : List Mb) (h1 : Rds w 1 A k (iv l1)) (h2 : Rds w 1 A2 k2 (iv l2)) (g1 : Rds w 2 B m (mv L1)) (g2 : Rds w 2 B2 m (mv L2)) (hk : k ≤ 9223372036854775807) (hm : m ≤ 9223372036854775807) :
    Calls Try.prog 27 #[.agg #[.int .i64 a0, .int .i64 a1, .int .i64 a2, .int .i64 a3, .string a4, .int .i64 a5, .slice A k c, .int .i64 a7, .int .i64 a8, .int .i64 a9, .slice B m d], .agg #[.int .i64 a0, .int .i64 a1, .int .i64 a2, .int .i64 a3, .string a4, .int .i64 a5, .slice A2 k2 c2, .int .i64 a7, .int .i64 a8, .int .i64 a9, .slice B2 m d2]] w fun e w2 => e = .returned (.bool (l1 == l2 && L1 == L2)) ∧ Chg Non w w2 := by
  obtain ⟨w1, ew1⟩ : ∃ wq, w.alloc (.cells #[.int .i64 a0, .int .i64 a1, .int .i64 a2, .int .i64 a3, .string a4, .int .i64 a5, .slice A k c, .int .i64 a7, .int .i64 a8, .int .i64 a9, .slice B m d] 59) = wq := ⟨_, rfl⟩
  have hc1 : Chg Non w w1 := ew1 ▸ (Chg.refl _ _).alloc _
  have hba : Blk w1 w.heap.size 59 #[.int .i64 a0, .int .i64 a1, .int .i64 a2, .int .i64 a3, .string a4, .int .i64 a5, .slice A k c, .int .i64 a7, .int .i64 a8, .int .i64 a9, .slice B m d] := ew1 ▸ Blk.new _ _ _
  obtain ⟨w2, ew2⟩ : ∃ wq, w1.alloc (.cells #[.int .i64 a0, .int .i64 a1, .int .i64 a2, .int .i64 a3, .string a4, .int .i64 a5, .slice A2 k2 c2, .int .i64 a7, .int .i64 a8, .int .i64 a9, .slice B2 m d2] 59) = wq := ⟨_, rfl⟩
  have hc2 : Chg Non w1 w2 := ew2 ▸ (Chg.refl _ _).alloc _
  have hbb : Blk w2 w1.heap.size 59 #[.int .i64 a0, .int .i64 a1, .int .i64 a2, .int .i64 a3, .string a4, .int .i64 a5, .slice A2 k2 c2, .int .i64 a7, .int .i64 a8, .int .i64 a9, .slice B2 m d2] := ew2 ▸ Blk.new _ _ _
  have hC : Chg Non w w2 := hc1.non hc2
  have hz : w1.heap.size = w.heap.size + 1 := by rw [← ew1]; simp
  rw [hz] at hbb
  replace hba := hba.non hc2
  replace h1 := h1.non hC
  replace h2 := h2.non hC
  replace g1 := g1.non hC
  replace g2 := g2.non hC
  have ew : (w.alloc (.cells #[.int .i64 a0, .int .i64 a1, .int .i64 a2, .int .i64 a3, .string a4, .int .i64 a5, .slice A k c, .int .i64 a7, .int .i64 a8, .int .i64 a9, .slice B m d] 59)).alloc (.cells #[.int .i64 a0, .int .i64 a1, .int .i64 a2, .int .i64 a3, .string a4, .int .i64 a5, .slice A2 k2 c2, .int .i64 a7, .int .i64 a8, .int .i64 a9, .slice B2 m d2] 59) = w2 := by rw [ew1, ew2]
  have Hew := Lib.hid ew
  have Hhba := Lib.hid hba
  have Hhbb := Lib.hid hbb
  have HhC := Lib.hid hC
  have Hh1 := Lib.hid h1
  have Hh2 := Lib.hid h2
  have Hg1 := Lib.hid g1
  have Hg2 := Lib.hid g2
  have Hm := Lib.hid g1.lenM
  have Hm2 := Lib.hid g2.lenM
  clear ew hba hbb hC h1 h2 g1 g2 ew1 ew2 hz hc1 hc2
  go_enter Try.func27, Try.ntmps27
  go_wp2_with fail
  have ew := Hew.out
  have hba := Hhba.out
  have hbb := Hhbb.out
  have hC := HhC.out
  have h1 := Hh1.out
  have h2 := Hh2.out
  have g1 := Hg1.out
  have g2 := Hg2.out
  rw [ew]
  clear ew Hew Hhba Hhbb HhC Hh1 Hh2 Hg1 Hg2
  refine (sameInts_any w2 A k c l1 A2 k2 c2 l2 h1 h2 hk).mono ?_
  rintro e w3 ⟨rfl, hc3⟩
  replace hC := hC.non hc3
  replace hba := hba.non hc3
  replace hbb := hbb.non hc3
  replace g1 := g1.non hc3
  replace g2 := g2.non hc3
  have Hg1 := Lib.hid g1
  have Hg2 := Lib.hid g2
  clear h1 h2 hc3 g1 g2
  have hx10 := hba.cell 10
  have hy10 := hbb.cell 10
  simp only [List.getElem?_toArray, List.getElem?_cons_zero, List.getElem?_cons_succ] at hx10 hy10
  cases targs : (l1 == l2) with
  | false =>
    have hno : Hid ((l1 == l2 && L1 == L2) = false) := by show _ = _; rw [targs]; rfl
    clear targs
    go_wp2_with fail
    go_ret
    exact ⟨by rw [hno.out]; rfl, hC⟩
  | true =>
    have Targs := Lib.hid targs
    clear targs
    go_wp2_with fail
    clear hx10 hy10
    go_loopw [5] (fun i wr => ∃ q : Nat, q ≤ m ∧ i = .int .i64 q ∧ Hid (L1.take q = L2.take q) ∧ Chg Non w3 wr) (fun i _ => m - (intOf i).toNat)
    case atStart => exact ⟨0, Nat.zero_le _, rfl, rfl, Chg.refl _ _⟩
    case round =>
      obtain ⟨q, hq, rfl, hs, hCr⟩ := hrel
      have hCw := hC.non hCr
      have x10 := (hba.non hCr).cell 10
      have y10 := (hbb.non hCr).cell 10
      simp only [List.getElem?_toArray, List.getElem?_cons_zero, List.getElem?_cons_succ] at x10 y10
      by_cases hlt : q < m
      · obtain ⟨ad, x, rfl, hx, hx0, hx1⟩ := (Hg1.out.non hCr).getM hlt
        obtain ⟨bd, y, rfl, hy, hy0, hy1⟩ := (Hg2.out.non hCr).getM hlt
        have hsame := take_same hx hy hs.out
        by_cases hxy : x = y
        · have hs2 : Hid (L1.take (q + 1) = L2.take (q + 1)) := hsame.2 hxy
          subst hxy
          clear hx hy hsame
          go_wp2_with fail
          go_quiet (fail)
          go_wp2_with fail
          go_roundw
          case rel => exact ⟨q + 1, by omega, by go_num, hs2, hCr.drewN _⟩
          case measure => simp [intOf]; omega
        · have hno : Hid ((l1 == l2 && L1 == L2) = false) := by show _ = _; rw [show (L1 == L2) = false from beq_eq_false_iff_ne.2 (not_same hx hy hxy)]; simp
          have hne := neq_mem x y hxy
          clear hx hy hsame hxy
          go_wp2_with fail
          go_quiet (fail)
          go_wp2_with fail
          go_ret
          exact ⟨by rw [hno.out]; rfl, hCw.drewN _⟩
      · obtain rfl : q = m := by omega
        have hyes : Hid ((l1 == l2 && L1 == L2) = true) := by
          show _ = _
          have := hs.out
          rw [List.take_of_length_le (by have := Hm.out; omega), List.take_of_length_le (by have := Hm2.out; omega)] at this
          rw [Targs.out, this]
          simp
        go_wp2_with fail
        go_ret
        exact ⟨by rw [hyes.out]; rfl, hCw⟩

/-- Two that are one. -/
theorem same_self (w : World) (a : Nt) (A : Option Addr) (k c : Nat) (B : Option Addr) (m d : Nat) (A2 : Option Addr) (k2 c2 : Nat) (B2 : Option Addr) (m2 d2 : Nat) (ha : NtAt w a A k c B m d) (hb : NtAt w a A2 k2 c2 B2 m2 d2) :
    Calls Try.prog 27 #[.agg (NtC a A k c B m d), .agg (NtC a A2 k2 c2 B2 m2 d2)] w fun e w2 => e = .returned (.bool true) ∧ Chg Non w w2 := by
  have hk63 : k ≤ 9223372036854775807 := by have := ha.kc; have := ha.cm; unfold maxLen at this; omega
  have hm63 : m ≤ 9223372036854775807 := by have := ha.md; have := ha.dm; unfold maxLen at this; omega
  have h1 := ha.args
  have h2 := hb.args
  have g1 := ha.mems
  have g2 := hb.mems
  obtain rfl : m = m2 := by rw [g1.lenM, g2.lenM]
  clear ha hb
  obtain ⟨a0, a1, a2, a3, a4, a5, l1, a7, a8, a9, L1⟩ := a
  refine (same_rows w a0 a1 a2 a3 a4 a5 a7 a8 a9 A k c B m d A2 k2 c2 B2 d2 l1 l1 L1 L1 h1 h2 g1 g2 hk63 hm63).mono ?_
  rintro e w2 ⟨rfl, hC⟩
  exact ⟨by simp, hC⟩
end
end Go.Proofs.Ytflaliomkfbagaa
