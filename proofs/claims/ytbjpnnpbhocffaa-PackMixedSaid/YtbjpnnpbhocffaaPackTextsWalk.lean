/-
  gleanerlaw1.PackTexts: the walk.
-/
import Derived.Test.YtbjpnnpbhocffaaAlive
import Derived.Test.YtbjpnnpbhocffaaReader
import Derived.Test.YtbjpnnpbhocffaaTexts
import Derived.Test.YtbjpnnpbhocffaaLaw
import Derived.Laws.BitsAllLaws
namespace Go.Proofs.Ytbjpnnpbhocffaa
open Go.RowKit
set_option linter.unusedVariables false

theorem all_ex {α β : Type} {Q : α → β → Prop} : ∀ {vs : List α}, (∀ u ∈ vs, ∃ L, Q u L) → ∃ X : List β, X.length = vs.length ∧ ∀ (k : Nat) u L, vs[k]? = some u → X[k]? = some L → Q u L
  | [], _ => ⟨[], rfl, fun k u L h => by simp at h⟩
  | v :: vs, h => by
    obtain ⟨L, hL⟩ := h v (by simp)
    obtain ⟨X, hX, hq⟩ := all_ex (vs := vs) fun u hu => h u (by simp [hu])
    refine ⟨L :: X, by simp [hX], fun k u M h1 h2 => ?_⟩
    cases k with
    | zero => simp at h1 h2; subst h1 h2; exact hL
    | succ k => simp at h1 h2; exact hq k u M h1 h2

theorem Rd.texts {P : Program} {w : World} {t e u : TypeId} {cs : List Value} (ht : P.underlying t = some (.slice e)) (hc : P.cellsOf e = 1) (he : P.underlying e = some (.slice u)) (hcu : P.cellsOf u = 1) (hu : P.underlying u = some (.int .u8)) (h : Rd P w t cs) :
    ∃ A n c X, cs = [.slice A n c] ∧ n ≤ c ∧ c ≤ maxLen ∧ Txts w A n X := by
  obtain ⟨A, n, c, vs, h1, h2, h3, h4, h5⟩ := h.slice1 ht hc
  obtain ⟨X, hX, hq⟩ := all_ex (Q := fun v L => ∃ B m c, v = Value.slice B m c ∧ m ≤ c ∧ c ≤ maxLen ∧ Rds w 1 B m (bv L)) (vs := vs) fun v hv => by
    obtain ⟨B, m, c, L, e1, e2, e3, e4⟩ := (h5 v hv).bytes he hcu hu
    simp only [List.cons.injEq, and_true] at e1
    exact ⟨L, B, m, c, e1, e2, e3, e4⟩
  have hn : n = vs.length := by have := h4.1; omega
  refine ⟨A, n, c, X, h1, h2, h3, by omega, fun k L hk => ?_⟩
  have hkl := (List.getElem?_eq_some_iff.1 hk).1
  obtain ⟨ad, v, hA, hv, hcell⟩ := h4.at_ (k := k) (by omega)
  obtain ⟨B, m, c, rfl, e2, e3, e4⟩ := hq k v L hv hk
  exact ⟨ad, B, m, c, hA, hcell, e2, e3, e4⟩

theorem texts_drop_le (X : List (List UInt8)) (k : Nat) : (texts (X.drop k)).length ≤ (texts X).length := by
  have h : texts X = texts (X.take k) ++ texts (X.drop k) := by unfold texts; rw [← List.flatMap_append, List.take_append_drop]
  rw [h, List.length_append]; omega

/-- A byte that is turned is a byte. -/
theorem byte_turn (x : UInt8) : bits .xor .u8 (x.toNat : Int) 255 = ((UInt8.ofNat (x.toNat ^^^ 255)).toNat : Int) := by
  have h := x.toNat_lt
  have h2 : x.toNat ^^^ 255 < 2 ^ 8 := Nat.xor_lt_two_pow (by omega) (by omega)
  rw [toNat_byte (by omega)]
  exact u8_xor_nat x.toNat 255 (by omega) (by omega)

set_option maxRecDepth 100000 in
set_option maxHeartbeats 1000000 in
theorem packTexts_core (w : World) (A : Option Addr) (n c : Nat) (b : List UInt8) (hc : n ≤ c) (hr : Rds w 1 A n (bv b)) (A2 : Option Addr) (m c2 : Nat) (X : List (List UInt8)) (hr2 : Txts w A2 m X) (hn1 : n ≤ 1000) (hm1 : m ≤ 100) :
    Calls Try.prog 8 #[.slice A n c, .slice A2 m c2] w fun e w2 => e = .returned (.bool true) ∧ Chg Non w w2 := by
  have hb1 : b.length ≤ 1000 := by have := hr.lenMap; omega
  have Hnb := Lib.hid (show n = b.length from hr.lenMap)
  have hr2k := Lib.hid hr2
  go_enter Try.func8, Try.ntmps8
  go_wp2_with fail
  refine (alive_any _).mono ?_
  rintro e w1 ⟨rfl, hc1⟩
  clear hr2
  go_wp2_with fail
  go_loopw [6] (fun i wr => ∃ (k : Nat), k ≤ m ∧ i = .int .i64 k ∧ Hid (∀ j L, j < k → X[j]? = some L → L.length ≤ 1000) ∧ Chg Non w wr) (fun i _ => m - (intOf i).toNat)
  case atStart => exact ⟨0, Nat.zero_le _, rfl, (fun j L h => by omega), hc1⟩
  case round =>
    clear hc1
    obtain ⟨k, hk, rfl, hall, hC⟩ := hrel
    by_cases hlt : k < m
    · obtain ⟨ad, B, m3, c3, L, rfl, hX, hcell, hm3, hc3, hrL⟩ := hr2k.out.get hlt
      have hcellr := hC.cell hcell id
      have hmL := hrL.lenMap
      have hm64 : m3 ≤ 9223372036854775807 := by unfold maxLen at hc3; omega
      by_cases hbig : 1000 < m3
      · go_wp2_with fail
        go_ret
        exact ⟨rfl, hC⟩
      · have hall2 : Hid (∀ j L, j < k + 1 → X[j]? = some L → L.length ≤ 1000) := by
          intro j M hj hM
          rcases Nat.lt_or_ge j k with h | h
          · exact hall.out j M h hM
          · obtain rfl : j = k := by omega
            rw [hX] at hM; cases hM; omega
        have HmL := Lib.hid hmL; clear hmL
        go_wp2_with fail
        go_roundw
        case rel => exact ⟨k + 1, by omega, by go_num, hall2, hC⟩
        case measure => simp [intOf]; omega
    · obtain rfl : m = k := by omega
      have hX1 : ∀ L ∈ X, L.length ≤ 1000 := by
        intro L hL
        obtain ⟨j, hj⟩ := List.getElem?_of_mem hL
        have h1 := (List.getElem?_eq_some_iff.1 hj).1
        exact hall.out j L (by have := hr2k.out.1; omega) hj
      have htl : (texts X).length ≤ 101000 := by
        have h1 := texts_bound hX1
        have h2 := hr2k.out.1
        have h3 : (1000 + 10) * X.length ≤ (1000 + 10) * 100 := Nat.mul_le_mul_left _ (by omega)
        omega
      have HX1 := Lib.hid hX1; clear hX1 hall
      have hrw := hr.non hC
      have hr2w := hr2k.out.non hC
      go_wp2_with fail
      refine (packBytes_any _ _ _ b _ _ _ X _ hrw hr2w (by omega)).mono ?_
      rintro e w5 ⟨v5, rfl, h7, hc5⟩
      obtain ⟨A5, n5, c5, rfl, hn5, hc51, hm5, hrd5⟩ := h7.open_
      have hlen5 : n5 = b.length + (texts X).length := by have := hn5.out; simp at this; exact this
      have hn5b : n ≤ n5 := by have := Hnb.out; omega
      have Hlen5 := Lib.hid hlen5; clear hlen5
      have hr15 := hrw.non hc5
      have hr25 := hr2w.non hc5
      have hC5 := hC.non hc5
      clear hrw hr2w hC hc5 h7
      go_wp2_with fail
      have q5 : ∀ w, Chg Non w5 w → (convert 23 9 (.slice A5 n5 c5)).run Try.prog w = .ok (.string ⟨(b ++ texts X).toArray⟩) w := fun w h => run_string_rds Try.underlying23 Try.underlying5 Try.underlying9 (hrd5.non h) c5
      refine st_region 1 Non [4] [] (fun _ _ _ _ => True) (fun _ _ v w => ∃ A n c, v = .slice A n c ∧ Rds w 1 A n (bv (b ++ texts X))) (fun _ _ v => ∃ A n c, v = .slice A n c) (fun _ => True) (by kernel_rfl) (by kernel_rfl) (fun _ h => h.elim) trivial (fun _ _ _ => trivial) ?_
      repeat (first | (refine st_pass (by rfl) ?_; simp only [Act.put, List.setIfInBounds_toArray, List.set_cons_succ, List.set_cons_zero]) | (refine st_plain (Non) (w5) rfl rfl (f := ?_) (by rfl) rfl rfl (fun w hC hG => ?_) ?_; rotate_left; (clear hG; first | (go_simp; done) | (go_simp; with_reducible rfl) | (simp [*, go_sem, ↓IntWalk.iteOmega]; done) | (simp [*, go_sem, ↓IntWalk.iteOmega]; with_reducible rfl)); simp only [Act.put, List.setIfInBounds_toArray, List.set_cons_succ, List.set_cons_zero]))
      refine st_major (Non) (w5) rfl rfl (by rfl) rfl (⟨.slice none 0 0, none, 0, 0, rfl⟩) (fun v w w2 _ h2 ⟨A, n, c, e, h⟩ => ⟨A, n, c, e, h.non h2⟩) (fun _ _ _ _ => trivial) (fun w hC hG hS => settle_of (r2 := ?_) ?_ ?_) ?_
      rotate_left
      (first | (go_simp; done) | (go_simp; rfl))
      · refine settle_enter ((refTexts_any _ _ _ b _ _ _ X _ (hr15.non hC) (hr25.non hC) (by omega)).mono ?_)
        rintro e w6 ⟨v6, rfl, h8, hc6⟩
        obtain ⟨A6, n6, c6, rfl, _, _, _, hrd6⟩ := h8.open_
        exact ⟨_, rfl, ⟨_, _, _, rfl⟩, hc6, trivial, _, _, _, rfl, hrd6⟩
      · rintro v ⟨A6, n6, c6, rfl⟩
        simp only [Act.put, List.setIfInBounds_toArray, List.set_cons_succ, List.set_cons_zero]
        refine st_plain Non w5 rfl rfl (f := .string ⟨(b ++ texts X).toArray⟩) (by rfl) rfl rfl (fun w hC hG => ?_) ?_
        · obtain ⟨A, n, c, e, h⟩ : ∃ A n c, Value.slice A6 n6 c6 = .slice A n c ∧ Rds w 1 A n (bv (b ++ texts X)) := hG 4 rfl
          cases e
          have q := run_string_rds Try.underlying23 Try.underlying5 Try.underlying9 h c6
          clear hG
          go_simp
        simp only [Act.put, List.setIfInBounds_toArray, List.set_cons_succ, List.set_cons_zero]
        repeat (first | (refine st_pass (by rfl) ?_; simp only [Act.put, List.setIfInBounds_toArray, List.set_cons_succ, List.set_cons_zero]) | (refine st_plain (Non) (w5) rfl rfl (f := ?_) (by rfl) rfl rfl (fun w hC hG => ?_) ?_; rotate_left; (clear hG; first | (go_simp; done) | (go_simp; with_reducible rfl) | (simp [*, go_sem, ↓IntWalk.iteOmega]; done) | (simp [*, go_sem, ↓IntWalk.iteOmega]; with_reducible rfl)); simp only [Act.put, List.setIfInBounds_toArray, List.set_cons_succ, List.set_cons_zero]))
        refine st_end Non w5 rfl rfl (fun w6 hC6 _ _ => ?_)
        have hC7 : Chg Non w w6 := hC5.non hC6
        have hrd6 := hrd5.non hC6
        have q6 := fun w => run_slice_lo (P := Try.prog) Try.underlying23 1 (by kernel_rfl) (by kernel_rfl) (kl := .i64) (i := (n : Int)) (k := n) (n := n5) rfl hn5b A5 c5 w
        have hr6 : Rds w6 1 (cutA A5 c5 n 1) (n5 - n) (bv (texts X)) := hrd6.drop8 hn5b hc51 (by rw [Hnb.out]; simp)
        clear q5 hr15 hr25 hrd5 hrd6 hC5 hC6
        go_wp2_with (at_builtin; refine app8b rfl _ (.tmp 53) rfl (Own8.nil _ w6.heap.size) rfl hr6 rfl ?_ ?_ ?_; (next => (simp; omega)); (next => exact Nat.le_refl _); intro v8 w8 h8 h9 h10; simp only [List.nil_append] at h8; have hc8 := h9.mono (S2 := Non) (fun _ e => by cases e); clear h9 h10)
        obtain ⟨A8, n8, c8, rfl, hn8, h81, h82, hrd8⟩ := h8.open_
        refine (new_fresh _ _ _ _ _ hrd8 (by omega)).mono ?_
        rintro e w9 ⟨g, rfl, hg, hcur, hc9⟩
        have hC9 := (hC7.non hc8).non hc9
        have h9 := h8.non hc9
        have hw6 : w.heap.size ≤ w6.heap.size := hC7.size
        have hgw : w.heap.size ≤ g := Nat.le_trans (Nat.le_trans hw6 hc8.size) hg
        have hg6 : w6.heap.size ≤ g := Nat.le_trans hc8.size hg
        have hL8 : ∀ b, (Value.slice A8 n8 c8).ownBlock = some b → b < w8.heap.size := fun b e => (World.ownsRow.lt h8 b e).2
        have h864 : n8 ≤ 9223372036854775807 := by unfold maxLen at h82; omega
        clear hr6 q6 hrd8 hC7 hc8 hc9 h8
        go_wp2_with fail
        go_loopw [10] (fun i wr => ∃ (k : Nat) (Li : List UInt8), k ≤ n8 ∧ i = .int .i64 k ∧ Own8 wr w6.heap.size (.slice A8 n8 c8) Li ∧ Hid (n8 = Li.length) ∧ CurP (fun b => w8.heap.size ≤ b) wr g (texts X) false ∧ Chg Non w wr) (fun i _ => n8 - (intOf i).toNat)
        case atStart => exact ⟨0, texts X, Nat.zero_le _, rfl, h9, hn8, hcur, hC9⟩
        case round =>
          clear h9 hcur hC9
          obtain ⟨k, Li, hk, rfl, h9, hLi, hcur, hC⟩ := hrel
          by_cases hlt : k < n8
          · obtain ⟨g8, n', c', e, _, _, hg8, hlt8, _, _⟩ := h9.formN (by have := hLi.out; omega)
            injection e with e1 e2 e3
            subst e1 e2 e3
            obtain ⟨x, hx⟩ : ∃ x, Li[k]? = some x := ⟨_, List.getElem?_eq_getElem (by have := hLi.out; omega)⟩
            have hcell := h9.cell hx
            have hfr := h9.frozen k
            have h8b := hL8 g8 rfl
            have h10 := h9.put k (UInt8.ofNat (x.toNat ^^^ 255))
            have hC10 : Chg (fun b => b = g8) wr (wr.setCell ⟨g8, k, none⟩ (.int .u8 (UInt8.ofNat (x.toNat ^^^ 255)).toNat)) := (Chg.refl _ _).set1 _ _
            rw [← byte_turn] at h10 hC10
            have Hx := Lib.hid hx; clear hx
            go_wp2_with fail
            go_roundw
            case rel => exact ⟨k + 1, _, by omega, by go_num, h10, by (have := hLi.out; show n8 = _; simpa using this), hcur.other hC10 (fun e => by omega) (fun b hb e => by omega), hC.trans2 hC10 fun b e => .inr (by omega)⟩
            case measure => simp [intOf]; omega
          · clear h9 hLi hL8
            have hcur0 := hcur.plain
            clear hcur
            go_wp2_with fail
            clear hlt hk
            go_loopw [11] (fun i wr => ∃ (k : Nat), k ≤ m ∧ i = .int .i64 k ∧ Cur wr g (texts (X.drop k)) false ∧ Chg Non w wr) (fun i _ => m - (intOf i).toNat)
            case atStart => exact ⟨0, Nat.zero_le _, rfl, by simpa using hcur0, hC⟩
            case round =>
              clear hcur0 hC
              obtain ⟨k, hk, rfl, hcur, hC⟩ := hrel
              by_cases hlt : k < m
              · obtain ⟨ad, B, m3, c3, L, rfl, hX, hcell, hm3, hc3, hrL⟩ := hr2k.out.get hlt
                have hL := HX1.out L (List.mem_of_getElem? hX)
                have hcb := cBytes_text (t := L) (by omega) (texts (X.drop (k + 1))) false
                rw [texts_drop hX] at hcur
                have htl2 : (num L.length ++ L ++ texts (X.drop (k + 1))).length ≤ 140737488351232 := by
                  have h1 := texts_drop_le X k
                  rw [texts_drop hX] at h1
                  omega
                have hgl := hcur.lt
                go_wp2_with fail
                refine (bytes_any g _ _ _ hcur.old htl2).mono ?_
                rintro e w3 ⟨v3, rfl, hown, hcur3, hc3g⟩
                rw [hcb] at hown hcur3
                simp only at hown hcur3
                obtain ⟨A3, n3, c3', rfl, hn3, h31, h32, hrd3⟩ := hown.open_
                have hC3 : Chg Non w w3 := hC.trans2 hc3g fun b e => .inr (by omega)
                have hrL3 := hrL.non hC3
                have hcell3 := hC3.cell hcell id
                have q1 : ∀ w, Chg Non w3 w → (convert 23 9 (.slice A3 n3 c3')).run Try.prog w = .ok (.string ⟨L.toArray⟩) w := fun w h => run_string_rds Try.underlying23 Try.underlying5 Try.underlying9 (hrd3.non h) c3'
                have q2 : ∀ w, Chg Non w3 w → (convert 23 9 (.slice B m3 c3)).run Try.prog w = .ok (.string ⟨L.toArray⟩) w := fun w h => run_string_rds Try.underlying23 Try.underlying5 Try.underlying9 (hrL3.non h) c3
                have q3 : ∀ w, Chg Non w3 w → w.cell? (ad.add k) = some (.slice B m3 c3) := fun w h => h.cell hcell3 id
                have h364 : n3 ≤ 9223372036854775807 := by unfold maxLen at h32; omega
                have hgs : wr.heap.size ≤ w3.heap.size := hc3g.size
                clear hcell hcell3 hrL hrL3 hcb htl2
                go_wp2_with fail
                refine st_region 1 Non [] [] (fun _ _ _ _ => True) (fun _ _ _ _ => True) (fun _ _ _ => True) (fun _ => True) (by kernel_rfl) (by kernel_rfl) (fun _ h => h.elim) trivial (fun _ _ _ => trivial) ?_
                repeat (first | (refine st_pass (by rfl) ?_; simp only [Act.put, List.setIfInBounds_toArray, List.set_cons_succ, List.set_cons_zero]) | (refine st_plain (Non) (w3) rfl rfl (f := ?_) (by rfl) rfl rfl (fun w hC hG => ?_) ?_; rotate_left; (clear hG; first | (go_simp; done) | (go_simp; with_reducible rfl) | (simp [*, go_sem, ↓IntWalk.iteOmega]; done) | (simp [*, go_sem, ↓IntWalk.iteOmega]; with_reducible rfl)); simp only [Act.put, List.setIfInBounds_toArray, List.set_cons_succ, List.set_cons_zero]))
                refine st_end Non w3 rfl rfl (fun w4 hC4 _ _ => ?_)
                have hown4 := hown.non hC4
                have hcur4 := hcur3.non hC4
                have hC5 := hC3.non hC4
                have hwb : w.heap.size ≤ wr.heap.size := hC.size
                clear hown hcur3 hC3 hC4 q1 q2 q3 hcur hc3g hC
                generalize wr.heap.size = base at hown4 hcur4 hwb hgl hgs
                go_wp2_with fail
                go_loopw [13] (fun i w5 => ∃ (q : Nat) (Li : List UInt8), q ≤ n3 ∧ i = .int .i64 q ∧ Own8 w5 base (.slice A3 n3 c3') Li ∧ Hid (n3 = Li.length) ∧ CurP (fun b => True ∧ b < base) w5 g (texts (X.drop (k + 1))) false ∧ Chg Non w w5) (fun i _ => n3 - (intOf i).toNat)
                case atStart => exact ⟨0, L, Nat.zero_le _, rfl, hown4, hn3, hcur4, hC5⟩
                case round =>
                  clear hown4 hcur4 hC5
                  obtain ⟨q, Li, hq, rfl, h9, hLi, hcur, hC5⟩ := hrel
                  by_cases hlt3 : q < n3
                  · obtain ⟨g8, n', c', e, _, _, hg8, hlt8, _, _⟩ := h9.formN (by have := hLi.out; omega)
                    injection e with e1 e2 e3
                    subst e1 e2 e3
                    obtain ⟨x, hx⟩ : ∃ x, Li[q]? = some x := ⟨_, List.getElem?_eq_getElem (by have := hLi.out; omega)⟩
                    have hcell := h9.cell hx
                    have hfr := h9.frozen q
                    have h10 := h9.put q (UInt8.ofNat (x.toNat ^^^ 255))
                    have hC10 : Chg (fun b => b = g8) wr (wr.setCell ⟨g8, q, none⟩ (.int .u8 (UInt8.ofNat (x.toNat ^^^ 255)).toNat)) := (Chg.refl _ _).set1 _ _
                    rw [← byte_turn] at h10 hC10
                    have Hx := Lib.hid hx; clear hx
                    go_wp2_with fail
                    go_roundw
                    case rel => exact ⟨q + 1, _, by omega, by go_num, h10, by (have := hLi.out; show n3 = _; simpa using this), hcur.other hC10 (fun e => by omega) (fun b hb e => by omega), hC5.trans2 hC10 fun b e => .inr (by omega)⟩
                    case measure => simp [intOf]; omega
                  · go_wp2_with fail
                    go_roundw
                    case rel => exact ⟨k + 1, by omega, by go_num, hcur.plain, hC5⟩
                    case measure => simp [intOf]; omega
              · obtain rfl : m = k := by omega
                have hz : texts (X.drop m) = [] := by rw [List.drop_of_length_le (by have := hr2k.out.1; omega)]; rfl
                rw [hz] at hcur
                go_wp2_with (go_at_call 17; refine (end_any g _ _ _ hcur).mono ?_; rintro e w9 ⟨rfl, rfl⟩)
                go_ret
                exact ⟨rfl, hC⟩

theorem packTexts_walk (w : World) (A : Option Addr) (n c : Nat) (e0 : Rd Try.prog w 23 (Value.slice A n c).cells.toList) (A2 : Option Addr) (m c2 : Nat) (e1 : Rd Try.prog w 44 (Value.slice A2 m c2).cells.toList) :
    Calls Try.prog 8 #[.slice A n c, .slice A2 m c2] w fun e w2 => e = .returned (.bool true) ∧ Chg Non w w2 := by
  obtain ⟨A', n', c', b, h1, h2, h3, h4⟩ := e0.bytes Try.underlying23 (by kernel_rfl) Try.underlying5
  obtain ⟨A2', n2', c2', X, g1, g2, g3, g4⟩ := e1.texts Try.underlying44 (by kernel_rfl) Try.underlying23 (by kernel_rfl) Try.underlying5
  simp only [Value.cells, List.cons.injEq, and_true, Value.slice.injEq] at h1 g1
  obtain ⟨rfl, rfl, rfl⟩ := h1
  obtain ⟨rfl, rfl, rfl⟩ := g1
  by_cases hn : n ≤ 1000 ∧ m ≤ 100
  · exact packTexts_core w A n c b h2 h4 A2 m c2 X g4 hn.1 hn.2
  · clear h4 g4 e0 e1
    have hn2 : 1000 < n ∨ 100 < m := by omega
    unfold maxLen at h3 g3
    clear hn
    rcases Nat.lt_or_ge 1000 n with h | h
    all_goals
      have h5 : 100 < m ∨ 1000 < n := by omega
      go_enter Try.func8, Try.ntmps8
      go_wp2_with fail
      refine (alive_any _).mono ?_
      rintro e w1 ⟨rfl, hc1⟩
      go_wp2_with fail
      go_ret
      exact ⟨rfl, hc1⟩
end Go.Proofs.Ytbjpnnpbhocffaa
