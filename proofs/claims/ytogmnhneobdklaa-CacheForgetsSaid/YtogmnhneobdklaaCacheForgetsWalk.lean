/-
  gleanerlaw23.CacheForgets: the walk.
-/
import Derived.Test.YtogmnhneobdklaaForgetsPlain
import Derived.Test.YtogmnhneobdklaaPutS
import Derived.Test.YtogmnhneobdklaaRowN
namespace Go.Proofs.Ytogmnhneobdklaa
open Go.RowKit
set_option linter.unusedVariables false
set_option linter.unusedSimpArgs false

abbrev s5 : CaS := ⟨[], 5, fun _ => none, 0⟩
/-- The rounds over those that are forgotten. -/
def RelG (w : World) (fl : List Int) (n base : Nat) (v i : Value) (wr : World) : Prop :=
  ∃ k : Nat, k ≤ n ∧ i = .int .i64 k ∧ OwnR rkI wr base v k (sv (nms (fl.take k))) ∧ Chg Non w wr
/-- The rounds over those that wait. -/
def RelX (w : World) (gone : List ByteArray) (l : List Int) (n base g mw : Nat) (Ag : Option Addr) (ng cg : Nat) (v cnt i : Value) (wr : World) : Prop :=
  ∃ (k m n9 : Nat) (f9 : ByteArray → Option Nat) (G : Nat → Prop), k ≤ n ∧ i = .int .i64 k ∧ cnt = .int .i64 ((cntF gone l k : Nat) : Int) ∧ OwnR rkI wr base v m (sv (wantR gone l k)) ∧ CW wr G g mw s5 n9 k f9 (fun a z => decide (a = nA) && inB (nms (l.take k)) z) ∧ (∀ a, a ≠ nA → f9 a = none) ∧ n9 ≤ k ∧
    (∀ b, G b → w.heap.size ≤ b) ∧ (∀ b, v.ownBlock = some b → ¬ G b) ∧ (∀ b, (Value.slice Ag ng cg).ownBlock = some b → ¬ G b) ∧ OwnR rkI wr base (.slice Ag ng cg) ng (sv gone) ∧ Chg Non w wr ∧ base ≤ wr.heap.size

set_option maxRecDepth 100000 in
set_option maxHeartbeats 8000000 in
theorem cacheForgets_core (wo : World) (A : Option Addr) (n c : Nat) (l : List Int) (hr : Rds wo 1 A n (iv l)) (hl : ∀ x ∈ l, i64 x) (B : Option Addr) (m d : Nat) (fl : List Int) (hr2 : Rds wo 1 B m (iv fl)) (hl2 : ∀ x ∈ fl, i64 x) (hn : n ≤ 40) (hm : m ≤ 40) :
    Calls Try.prog 4 #[.slice A n c, .slice B m d] wo fun e w2 => e = .returned (.bool true) ∧ Chg Non wo w2 := by
  have Hr := Lib.hid hr
  have Hr2 := Lib.hid hr2
  have Hll := Lib.hid hr.lenMap
  have Hll2 := Lib.hid hr2.lenMap
  clear hr hr2 hl hl2
  go_enter Try.func4, Try.ntmps4
  go_wp2_with fail
  refine (cache_alive _).mono ?_
  rintro e w1 ⟨rfl, hc1⟩
  go_wp2_with fail
  refine (cwNew 5 (by omega) w1).mono ?_
  rintro e w2 ⟨g, mw, G, rfl, hW, hG, hc2⟩
  have hC2 := hc1.non hc2
  have hGo : ∀ b, G b → wo.heap.size ≤ b := fun b hb => by have := hG b hb; have := hc1.size; omega
  have hgl := hW.gl
  have hGl := hW.lt
  have HW := Lib.hid hW
  clear hW hc1 hc2 hG
  obtain ⟨s2, hs2⟩ : ∃ s2, w2.heap.size = s2 := ⟨_, rfl⟩
  have hs2' : s2 ≤ w2.heap.size := by omega
  have hs2l : w2.heap.size ≤ s2 := by omega
  clear hs2
  go_wp2_with fail
  go_loopw [8, 9] (RelG w2 fl m s2) (fun _ i _ => m - (intOf i).toNat)
  case atStart => exact ⟨0, Nat.zero_le _, rfl, OwnR.nil _ _ _, Chg.refl _ _⟩
  case round =>
    obtain ⟨k, hk, rfl, hO, hC⟩ := hrel
    have hsz := hC.size
    by_cases hlt : k < m
    · obtain ⟨ad, x, rfl, hx, hc0⟩ := Hr2.out.getI hlt
      have a0 := (hC2.non hC).cell hc0 id
      obtain ⟨y, hy, hand, hmod⟩ := and15 x
      have hnm : nm x = id2 2 y := by unfold nm; congr 1; omega
      have hst := nms_step hx
      rw [hnm] at hst
      have q : (convert 28 27 (.slice (some ⟨wr.heap.size, 0, none⟩) 2 2)).run Try.prog (wr.alloc (.cells #[.int .u8 2, .int .u8 (y : Int)] 5)) = .ok (.string (id2 2 y)) (wr.alloc (.cells #[.int .u8 2, .int .u8 (y : Int)] 5)) := conv2 (j := 2) (by omega) (show y < 256 by omega) wr
      have b1 : (0 : Int) ≤ (k : Int) := by omega
      have b2 : (k : Int) < m := by omega
      have b3 : (y : Int) ≤ 255 := by omega
      have Hst := Lib.hid hst
      have HO := Lib.hid hO
      clear hst hnm hmod hc0 hx hO
      go_wp2_with (at_builtin; refine appR1s (K := rkI) rfl (.tmp 40) (.tmp 49) rfl (HO.out.alloc (.cells #[.int .u8 2, .int .u8 (y : Int)] 5)) rfl (cs := #[.string (id2 2 y)]) rfl (show Value.slice (some ⟨wr.heap.size + 1, 0, none⟩) 1 1 = .slice (some ⟨(wr.alloc (.cells #[.int .u8 2, .int .u8 (y : Int)] 5)).heap.size, 0, none⟩) 1 1 by simp) (svI_one [id2 2 y]) ?_ ?_ ?_; (next => omega); (next => simp; omega); intro A6 c6 w6 hO6 hc6 hb6)
      have hO7 : OwnR rkI w6 s2 (.slice A6 (k + 1) c6) (k + 1) (sv (nms (fl.take (k + 1)))) := by rw [Hst.out, sv_snoc]; exact hO6
      have hC7 : Chg Non w2 w6 := (hC.alloc _).trans2 hc6 (fun b e => .inr (by have := (HO.out.lt e).1; omega))
      have hrel : RelG w2 fl m s2 (.slice A6 (k + 1) c6) (.int .i64 ((k + 1 : Nat) : Int)) w6 := ⟨k + 1, by omega, rfl, hO7, hC7⟩
      have Hrel := Lib.hid hrel
      clear hrel hO6 hc6 hb6 hO7 hC7 q hand a0
      go_wp2_with fail
      go_roundw
      case rel => exact Hrel.out
      case measure => simp [intOf]; omega
    · obtain rfl : k = m := by omega
      have hfl : fl.take k = fl := List.take_of_length_le (by have := Hll2.out; omega)
      rw [hfl] at hO
      clear hfl
      generalize hgn : nms fl = gone at hO
      have hgs : ∀ x ∈ gone, x.size ≤ maxLen := fun x hx => by
        rw [← hgn] at hx
        obtain ⟨y, _, rfl⟩ := List.mem_map.1 hx
        exact id_small (nm_vid y)
      have Hgs := Lib.hid hgs
      obtain ⟨Ag, cg, rfl, _, _, _, _⟩ := hO.open_
      have hgl40 : k ≤ 40 := hm
      have hini : RelX wo gone l n s2 g mw Ag k cg (.slice none 0 0) (.int .i64 0) (.int .i64 0) wr := by
        refine ⟨0, 0, 0, _, G, Nat.zero_le _, rfl, rfl, OwnR.nil _ _ _, (HW.out.non hC).congr (fun a z => by simp [nms, inB]), fun a _ => rfl, Nat.le_refl _, hGo, (fun b h => by cases h), fun b hb hg => ?_, hO, hC2.non hC, by omega⟩
        have := (hO.lt hb).1
        have := hGl b hg
        omega
      have Hini := Lib.hid hini
      clear hini hO hC hC2 HW hGo hgl hGl hsz hgn hgs
      go_wp2_with fail
      go_loopw [7, 10, 11] (RelX wo gone l n s2 g mw Ag k cg) (fun _ _ i _ => n - (intOf i).toNat)
      case atStart => exact Hini.out
      case round =>
        clear Hini
        obtain ⟨t, mm, n9, f9, G9, ht, rfl, rfl, hO, hW, hone, hn9, hG, hvG, hgG, hgo, hC, hbs⟩ := hrel
        have hcF := cntF_le gone l t
        have hwl := want_len gone l t
        have hmm := hO.lenS
        by_cases hlt2 : t < n
        · obtain ⟨ad, x, rfl, hx, hc0⟩ := Hr.out.getI hlt2
          have a0 := hC.cell hc0 id
          obtain ⟨y, hy, hand, hmod⟩ := and15 x
          have hnm : nm x = id2 2 y := by unfold nm; congr 1; omega
          have q : (convert 28 27 (.slice (some ⟨wr.heap.size, 0, none⟩) 2 2)).run Try.prog (wr.alloc (.cells #[.int .u8 2, .int .u8 (y : Int)] 5)) = .ok (.string (id2 2 y)) (wr.alloc (.cells #[.int .u8 2, .int .u8 (y : Int)] 5)) := conv2 (j := 2) (by omega) (show y < 256 by omega) wr
          have b1 : (0 : Int) ≤ (t : Int) := by omega
          have b2 : (t : Int) < n := by omega
          have b3 : (y : Int) ≤ 255 := by omega
          have hnst := nms_step hx
          have hadl : ad.block < wo.heap.size := by have h2 := World.block_lt_of_cell? wo _ hc0; rw [block_add] at h2; exact h2
          have hask := cwAskNew (wr.alloc (.cells #[.int .u8 2, .int .u8 (y : Int)] 5)) G9 g mw n9 t s5 f9 _ nA (id2 2 y) (hW.non ((Chg.refl _ _).alloc _)) (by decide) (by rw [← hnm]; exact nm_vid x) rfl (by omega) (by omega)
          have Hnm := Lib.hid hnm
          have Hmod := Lib.hid hmod
          have Hx := Lib.hid hx
          have HO := Lib.hid hO
          have HGO := Lib.hid hgo
          have HG := Lib.hid hG
          have Hone := Lib.hid hone
          have HvG := Lib.hid hvG
          have HgG := Lib.hid hgG
          have Hnst := Lib.hid hnst
          have Hc0 := Lib.hid hc0
          clear hnm hmod hx hO hgo hG hone hvG hgG hnst hc0 hW
          go_wp2_with fail
          refine hask.mono ?_
          rintro e w4 ⟨G4, n4, f4, rfl, hW4, hn4, hf4, _, hG4, hc4⟩
          have hsA : wr.heap.size ≤ (wr.alloc (.cells #[.int .u8 2, .int .u8 (y : Int)] 5)).heap.size := by simp
          have hC4 : Chg Non wo w4 := (hC.alloc _).trans2 hc4 (fun b e => .inr (HG.out b e))
          have hO4 := (HO.out.alloc (.cells #[.int .u8 2, .int .u8 (y : Int)] 5)).chg hc4 (fun b hb e => HvG.out b hb e)
          have hGO4 := (HGO.out.alloc (.cells #[.int .u8 2, .int .u8 (y : Int)] 5)).chg hc4 (fun b hb e => HgG.out b hb e)
          have hcs := hC.size
          have hbs4 : s2 ≤ w4.heap.size := by have := hc4.size; omega
          have hG4' : ∀ b, G4 b → wo.heap.size ≤ b := fun b hb => (hG4 b hb).elim (HG.out b) (fun h => by omega)
          have hv4 : ∀ b, u7.ownBlock = some b → ¬ G4 b := fun b hb h => (hG4 b h).elim (HvG.out b hb) (fun h => by have := (HO.out.lt hb).2; omega)
          have hg4 : ∀ b, (Value.slice Ag k cg).ownBlock = some b → ¬ G4 b := fun b hb h => (hG4 b h).elim (HgG.out b hb) (fun h => by have := (HGO.out.lt hb).2; omega)
          have hone4 : ∀ a, a ≠ nA → f4 a = none := fun a ha => by rw [hf4 a ha]; exact Hone.out a ha
          have hn4' : n4 ≤ t + 1 := by rw [hn4]; split <;> omega
          have hW5 := hW4.congr (D2 := fun a z => decide (a = nA) && inB (nms (l.take (t + 1))) z) (fun a z => by
            rw [Hnst.out, inB_snoc, Hnm.out]
            by_cases ha : a = nA
            · by_cases hz : z = id2 2 y
              · subst hz; simp [ha]
              · have hz2 : ¬ id2 2 y = z := fun e => hz e.symm
                simp [ha, hz, hz2]
            · simp [ha])
          have a4 := hC4.cell Hc0.out _root_.id
          have HW5 := Lib.hid hW5
          have HO4 := Lib.hid hO4
          have HGO4 := Lib.hid hGO4
          have HG4 := Lib.hid hG4'
          have Hv4 := Lib.hid hv4
          have Hg4 := Lib.hid hg4
          have Hone4 := Lib.hid hone4
          clear hask hW4 hn4 hf4 hG4 hc4 hO4 hGO4 hG4' hv4 hg4 hone4 hW5 HO HGO HG Hone HvG HgG hsA hC a0 q
          go_wp2_with fail
          go_loop [13, 14] (fun o i => ∃ j : Nat, j ≤ k ∧ i = .int .i64 j ∧ o = .bool (inB (gone.take j) (id2 2 y))) (fun _ i => k - (intOf i).toNat)
          case atStart => exact ⟨0, Nat.zero_le _, rfl, rfl⟩
          case round =>
            obtain ⟨j, hj, rfl, rfl⟩ := hrel
            by_cases hlt3 : j < k
            · obtain ⟨ag, z, rfl, hz, hcz⟩ := HGO4.out.rds.getS hlt3
              have e1 : (0 : Int) ≤ (j : Int) := by omega
              have e2 : (j : Int) < k := by omega
              have hst : inB (gone.take (j + 1)) (id2 2 y) = (inB (gone.take j) (id2 2 y) || decide (z = id2 2 y)) := by rw [List.take_add_one, hz]; exact inB_snoc _ _ _
              cases ho : inB (gone.take j) (id2 2 y) with
              | true =>
                rw [ho, Bool.true_or] at hst
                have Hst := Lib.hid hst
                clear hst ho hz hcz
                go_wp2_with fail
                go_round
                case rel => exact ⟨j + 1, by omega, by go_num, by rw [Hst.out]⟩
                case measure => simp [intOf]; omega
              | false =>
                rw [ho, Bool.false_or] at hst
                by_cases hzy : z = id2 2 y
                · rw [decide_eq_true hzy] at hst
                  rw [hzy] at hcz
                  have Hst := Lib.hid hst
                  clear hst ho hz hzy
                  go_wp2_with fail
                  go_round
                  case rel => exact ⟨j + 1, by omega, by go_num, by rw [Hst.out]⟩
                  case measure => simp [intOf]; omega
                · rw [decide_eq_false hzy] at hst
                  have e3 := str_ne hzy
                  have Hst := Lib.hid hst
                  clear hst ho hz hzy
                  go_wp2_with fail
                  go_round
                  case rel => exact ⟨j + 1, by omega, by go_num, by rw [Hst.out]⟩
                  case measure => simp [intOf]; omega
            · have hgl2 : gone.take j = gone := List.take_of_length_le (by have := HGO4.out.lenS; omega)
              rw [hgl2]
              clear hgl2
              go_wp2_with fail
              go_loopw [15, 16] (fun o i wr2 => ∃ j : Nat, j ≤ t ∧ i = .int .i64 j ∧ o = .bool (inB (nms (l.take j)) (id2 2 y)) ∧ Chg Non w4 wr2) (fun _ i _ => t - (intOf i).toNat)
              case atStart => exact ⟨0, Nat.zero_le _, rfl, rfl, Chg.refl _ _⟩
              case round =>
                obtain ⟨j2, hj2, rfl, rfl, hc5⟩ := hrel
                obtain ⟨w5, rfl⟩ : ∃ w5 : World, w5 = wr := ⟨_, rfl⟩
                have hC5 := hC4.non hc5
                by_cases hlt4 : j2 < t
                · obtain ⟨ad2, xj, e0, hxj, hcj⟩ := Hr.out.getI (show j2 < n by omega)
                  obtain rfl := Option.some.inj e0
                  obtain ⟨yj, hyj, handj, hmodj⟩ := and15 xj
                  have hnmj : nm xj = id2 2 yj := by unfold nm; congr 1; omega
                  have a5 := hC5.cell hcj _root_.id
                  have a6 := hc5.cell a4 _root_.id
                  have e1 : (0 : Int) ≤ (j2 : Int) := by omega
                  have e2 : (j2 : Int) < n := by omega
                  have hst : inB (nms (l.take (j2 + 1))) (id2 2 y) = (inB (nms (l.take j2)) (id2 2 y) || decide (id2 2 yj = id2 2 y)) := by rw [nms_step hxj, hnmj]; exact inB_snoc _ _ _
                  cases ho : inB (nms (l.take j2)) (id2 2 y) with
                  | true =>
                    rw [ho, Bool.true_or] at hst
                    have Hst := Lib.hid hst
                    clear hst ho hxj hcj hmodj hnmj handj
                    go_wp2_with fail
                    go_quiet (fail)
                    go_wp2_with fail
                    go_roundw
                    case rel => exact ⟨j2 + 1, by omega, by go_num, by rw [Hst.out], hc5.drewN _⟩
                    case measure => simp [intOf]; omega
                  | false =>
                    rw [ho, Bool.false_or] at hst
                    by_cases hzy : yj = y
                    · subst hzy
                      rw [decide_eq_true rfl] at hst
                      have Hst := Lib.hid hst
                      clear hst ho hxj hcj hmodj hnmj
                      go_wp2_with fail
                      go_quiet (fail)
                      go_wp2_with fail
                      go_roundw
                      case rel => exact ⟨j2 + 1, by omega, by go_num, by rw [Hst.out], hc5.drewN _⟩
                      case measure => simp [intOf]; omega
                    · have hne : id2 2 yj ≠ id2 2 y := fun e => hzy (id2_inj (by omega) (by omega) e)
                      rw [decide_eq_false hne] at hst
                      have e3 : ((yj : Int) == y) = false := beq_eq_false_iff_ne.2 (by omega)
                      have Hst := Lib.hid hst
                      clear hst ho hxj hcj hmodj hnmj hne hzy
                      go_wp2_with fail
                      go_quiet (fail)
                      go_wp2_with fail
                      go_roundw
                      case rel => exact ⟨j2 + 1, by omega, by go_num, by rw [Hst.out], hc5.drewN _⟩
                      case measure => simp [intOf]; omega
                · obtain rfl : j2 = t := by omega
                  have hcst := cntF_step (gone := gone) Hx.out
                  rw [Hnm.out] at hcst
                  have hO5 := HO4.out.non hc5
                  have hGO5 := HGO4.out.non hc5
                  have hW6 := HW5.out.non hc5
                  have hs5 : s2 ≤ w5.heap.size := by have := hc5.size; omega
                  have HO5 := Lib.hid hO5
                  have HGO5 := Lib.hid hGO5
                  have HW6 := Lib.hid hW6
                  have HC5 := Lib.hid hC5
                  clear hO5 hGO5 hW6 hC5 HO4 HGO4 HW5 hc5 hC4 a4
                  cases hg : inB gone (id2 2 y) with
                  | true =>
                    have hwin := want_in Hx.out (by rw [Hnm.out]; exact hg)
                    have Hwin := Lib.hid hwin
                    clear hwin
                    cases hp : inB (nms (l.take j2)) (id2 2 y) with
                    | true =>
                      rw [hg, hp] at hcst
                      have Hcs := Lib.hid (show cntF gone l (j2 + 1) = cntF gone l j2 from hcst)
                      clear hcst hg hp
                      go_wp2_with fail
                      go_roundw
                      case rel => exact ⟨j2 + 1, mm, n4, f4, G4, by omega, by go_num, by rw [Hcs.out], by rw [Hwin.out]; exact HO5.out, HW6.out, Hone4.out, hn4', HG4.out, Hv4.out, Hg4.out, HGO5.out, HC5.out, hs5⟩
                      case measure => simp [intOf]; omega
                    | false =>
                      rw [hg, hp] at hcst
                      have Hcs := Lib.hid (show cntF gone l (j2 + 1) = cntF gone l j2 + 1 from hcst)
                      clear hcst hg hp
                      go_wp2_with fail
                      go_roundw
                      case rel => exact ⟨j2 + 1, mm, n4, f4, G4, by omega, by go_num, by rw [Hcs.out]; go_num, by rw [Hwin.out]; exact HO5.out, HW6.out, Hone4.out, hn4', HG4.out, Hv4.out, Hg4.out, HGO5.out, HC5.out, hs5⟩
                      case measure => simp [intOf]; omega
                  | false =>
                    have hwout := want_out Hx.out (by rw [Hnm.out]; exact hg)
                    rw [Hnm.out] at hwout
                    have Hwout := Lib.hid hwout
                    rw [hg] at hcst
                    have Hcs := Lib.hid (show cntF gone l (j2 + 1) = cntF gone l j2 from hcst)
                    clear hwout hcst hg
                    go_wp2_with fail
                    refine (putS_any w5 s2 u7 mm _ (id2 2 y) HO5.out hs5 (by omega)).mono ?_
                    rintro e w6 ⟨v6, n6, rfl, hO6, hc6, hb6⟩
                    rw [← Hwout.out] at hO6
                    have hG6 : ∀ b, v6.ownBlock = some b → ¬ G4 b := fun b hb h => (hb6 b hb).elim (fun h2 => Hv4.out b h2 h) (fun h2 => by have := HW6.out.lt b h; omega)
                    have hs6 : s2 ≤ w6.heap.size := by have := hc6.size; omega
                    have HW7 := Lib.hid (HW6.out.non hc6)
                    have HGO7 := Lib.hid (HGO5.out.non hc6)
                    have HC7 := Lib.hid (HC5.out.non hc6)
                    have HO7 := Lib.hid hO6
                    have HG7 := Lib.hid hG6
                    clear hO6 hc6 hb6 hG6 HW6 HGO5 HC5 HO5
                    go_wp2_with fail
                    go_roundw
                    case rel => exact ⟨j2 + 1, n6, n4, f4, G4, by omega, by go_num, by rw [Hcs.out], HO7.out, HW7.out, Hone4.out, hn4', HG4.out, HG7.out, Hg4.out, HGO7.out, HC7.out, hs6⟩
                    case measure => simp [intOf]; omega
        · obtain rfl : t = n := by omega
          have hln : l.length ≤ t := by have := Hll.out; omega
          obtain ⟨D9, hD9⟩ : ∃ D9 : ByteArray → ByteArray → Bool, (fun a z => decide (a = nA) && inB (nms (l.take t)) z) = D9 := ⟨_, rfl⟩
          rw [hD9] at hW
          have hDa : D9 nA = inB (nms l) := by
            rw [← hD9, List.take_of_length_le hln]
            funext z
            simp
          have hcnt : (risenS gone).countP (D9 nA) = cntF gone l t := by rw [hDa]; exact cntF_all hln
          have Hcnt := Lib.hid hcnt
          have HDa := Lib.hid hDa
          have HO := Lib.hid hO
          have HG := Lib.hid hG
          have Hgo := Lib.hid hgo.rds
          have HvG := Lib.hid hvG
          have HW := Lib.hid hW
          have Hln := Lib.hid hln
          have Hone := Lib.hid hone
          clear hcnt hDa hO hG hgo hvG hgG hW hln hone hD9
          go_wp2_with fail
          refine (cwForget wr G9 g mw n9 t s5 f9 D9 nA Ag k cg gone HW.out (by decide) Hone.out Hgo.out (by omega) (by omega) Hgs.out).mono ?_
          rintro e w4 ⟨rfl, n4, f4, hW4, hc4⟩
          rw [Hcnt.out]
          have hC4 : Chg Non wo w4 := hC.trans2 hc4 (fun b e => .inr (HG.out b e))
          have hO4 := HO.out.chg hc4 (fun b hb e => HvG.out b hb e)
          clear hC hc4 HO HW Hone Hgo
          go_wp2_with fail
          refine (cwPutRoom w4 G9 g mw n4 t s5 f4 _ nA 0 0 (by decide) hW4 (by decide) rfl (by decide) (by decide) (by omega)).mono ?_
          rintro e w6 ⟨A6, L6, c6, G6, rfl, hr6, hm6, hl6, hO6, _, _, hC6'⟩
          have hO6' := hO4.chg hC6' (fun b hb e => HvG.out b hb e)
          have hL6 : L6 = wantR gone l t := want_all Hln.out hr6 (fun x => by rw [hm6]; show (D9 nA x && _) = true ↔ _; rw [HDa.out])
          have hC6 : Chg Non wo w6 := hC4.trans2 hC6' (fun b e => .inr (HG.out b e))
          subst hL6
          obtain rfl : mm = (wantR gone l t).length := hmm
          obtain ⟨Aw, cw, rfl, _, _, hrw, _⟩ := hO6'.open_
          have hsm := sameIDs_same w6 A6 _ c6 Aw cw (wantR gone l t) (Rds.of_own hO6) hrw (by omega)
          clear hO6 hO6' hr6 hm6 hl6
          go_wp2_with fail
          refine hsm.mono ?_
          rintro e w7 ⟨rfl, hc7⟩
          go_wp2_with fail
          go_ret
          exact ⟨rfl, hC6.non hc7⟩

set_option maxRecDepth 100000 in
set_option maxHeartbeats 4000000 in
theorem cacheForgets_walk (w : World) (A : Option Addr) (n c : Nat) (e1 : Rd Try.prog w 22 (Value.slice A n c).cells.toList) (A2 : Option Addr) (m c2 : Nat) (e2 : Rd Try.prog w 22 (Value.slice A2 m c2).cells.toList) :
    Calls Try.prog 4 #[.slice A n c, .slice A2 m c2] w fun e w2 => e = .returned (.bool true) ∧ Chg Non w w2 := by
  obtain ⟨A', n', c', l, g1, g2, g3, g4, g5⟩ := e1.ints Try.underlying22 (by kernel_rfl) Try.underlying3
  simp only [Value.cells, List.cons.injEq, and_true, Value.slice.injEq] at g1
  obtain ⟨rfl, rfl, rfl⟩ := g1
  obtain ⟨A', n', c', l2, i1, i2, i3, i4, i5⟩ := e2.ints Try.underlying22 (by kernel_rfl) Try.underlying3
  simp only [Value.cells, List.cons.injEq, and_true, Value.slice.injEq] at i1
  obtain ⟨rfl, rfl, rfl⟩ := i1
  by_cases hn : n ≤ 40 ∧ m ≤ 40
  · exact cacheForgets_core w A n c l g4 g5 A2 m c2 l2 i4 i5 hn.1 hn.2
  · clear g4 e1 g5 e2 i4 i5
    unfold maxLen at g3 i3
    have hcase : 40 < n ∨ (n ≤ 40 ∧ 40 < m) := by omega
    clear hn
    rcases hcase with k1 | ⟨k1, k2⟩
    all_goals
      go_enter Try.func4, Try.ntmps4
      go_wp2_with fail
      refine (cache_alive _).mono ?_
      rintro e w1 ⟨rfl, hc1⟩
      go_wp2_with fail
      go_ret
      exact ⟨rfl, hc1⟩
end Go.Proofs.Ytogmnhneobdklaa
