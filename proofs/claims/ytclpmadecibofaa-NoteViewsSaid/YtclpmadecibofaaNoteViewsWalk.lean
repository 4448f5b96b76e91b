/-
  gleanerlaw11.NoteViews: the walk.
-/
import Derived.Test.YtclpmadecibofaaNoteAlive
import Derived.Test.YtclpmadecibofaaNoteLast
import Derived.Test.YtclpmadecibofaaNoteSameView
import Derived.Deep.CutRange
namespace Go.Proofs.Ytclpmadecibofaa
open Go.ChangeShapes Go.WideShapes Go.ChangeAt Go.RowKit Go.Deep
set_option linter.unusedVariables false
set_option linter.unusedSimpArgs false

/-- A note of kind 2 with a view, and with what that kind does not have. -/
def viewN (ep : Int) (L : List Mb) : Nt := { Nt.zero with kind := 2, node := 99, life := -1, vep := ep, mems := L }
theorem viewN_ok {ep : Int} {L : List Mb} (he : i64 ep) (hL : ∀ m ∈ L, i64 m.1 ∧ i64 m.2) : (viewN ep L).ok := by
  have h := zero_ok
  exact ⟨by unfold i64 viewN; simp, by unfold i64 viewN; simp, by unfold i64 viewN; simp, h.epoch, h.fn, h.args, h.err, h.val, he, hL, h.id⟩
/-- What its kind has alone. -/
def viewC (ep : Int) (L : List Mb) : Nt := { Nt.zero with kind := 2, vep := ep, mems := L }
theorem viewC_ok {ep : Int} {L : List Mb} (he : i64 ep) (hL : ∀ m ∈ L, i64 m.1 ∧ i64 m.2) : (viewC ep L).ok := by
  have h := zero_ok
  exact ⟨by unfold i64 viewC; simp, h.node, h.life, h.epoch, h.fn, h.args, h.err, h.val, he, hL, h.id⟩
theorem viewN_clear (ep : Int) (L : List Mb) : (viewN ep L).clear = viewC ep L := rfl
theorem viewC_clear (ep : Int) (L : List Mb) : (viewC ep L).clear = viewC ep L := rfl
theorem viewC_may (ep : Int) (L : List Mb) : (viewC ep L).may = (upto great ep && viewB L) := by
  unfold Nt.may viewC
  simp only [Nt.zero]
  rw [show isK 2 = true from rfl, show upto 15 0 = true from rfl, show upto great 0 = true from rfl, show vid ⟨#[]⟩ = true from rfl, show upto 31 0 = true from rfl, show endB 0 0 = true from rfl]
  simp
/-- The law's own test, of the first k members. -/
def okM (ep : Int) (n : Nat) (L : List Mb) (k : Nat) : Bool := upto great ep && decide ((n : Int) ≤ 16) && memsB (-1) (L.take k)
theorem okM_succ (ep : Int) (n : Nat) {L : List Mb} {k : Nat} {m : Mb} (h : L[k]? = some m) : okM ep n L (k + 1) = (okM ep n L k && (decide (lastM L k < m.1) && upto 15 m.1 && upto great m.2)) := by
  unfold okM
  rw [memsB_take h]
  simp only [Bool.and_assoc]
theorem okM_all (ep : Int) (L : List Mb) : okM ep L.length L L.length = (upto great ep && viewB L) := by
  unfold okM viewB
  rw [List.take_of_length_le (Nat.le_refl _), show decide ((L.length : Int) ≤ 16) = decide (L.length ≤ 16) from decide_eq_decide.2 (by omega), Bool.and_assoc, Bool.and_comm (decide (L.length ≤ 16))]

set_option maxRecDepth 100000 in
set_option maxHeartbeats 8000000 in
theorem noteViews_core (w : World) (ep : Int) (A : Option Addr) (n c : Nat) (L : List Mb) (he : i64 ep) (hr : Rds w 2 A n (mv L)) (hL : ∀ m ∈ L, i64 m.1 ∧ i64 m.2) (hnc : n ≤ c) (hcm : c ≤ maxLen) (hn : n ≤ 100) :
    Calls Try.prog 8 #[.agg #[.int .i64 ep, .slice A n c]] w fun x w2 => x = .returned (.bool true) ∧ Chg Non w w2 := by
  have Hnl := Lib.hid hr.lenM
  have hex : ∃ w1, w.alloc (.cells #[.int .i64 ep, .slice A n c] 29) = w1 := ⟨_, rfl⟩
  obtain ⟨w1, e1⟩ := hex
  have hC : Chg Non w w1 := e1 ▸ (Chg.refl _ _).alloc _
  have hbv : Blk w1 w.heap.size 29 #[.int .i64 ep, .slice A n c] := e1 ▸ Blk.new _ _ _
  replace hr := hr.non hC
  have E1 := Lib.hid e1
  clear e1
  go_enter Try.func8, Try.ntmps8
  go_wp2_with fail
  rw [E1.out]
  refine (note_alive w1).mono ?_
  rintro x w2 ⟨rfl, hc⟩
  replace hC := hC.non hc
  replace hbv := hbv.non hc
  replace hr := hr.non hc
  clear hc E1
  have v0 := hbv.cell 0
  have v1 := hbv.cell 1
  simp only [List.getElem?_toArray, List.getElem?_cons_zero, List.getElem?_cons_succ] at v0 v1
  go_wp2_with fail
  refine (pack_any w2 (viewN ep L) none 0 0 A n c ⟨viewN_ok he hL, Rds.nil_, Nat.le_refl _, Nat.zero_le _, hr, hnc, hcm⟩ (by omega) (by omega)).mono ?_
  rintro x w3 ⟨v3, rfl, hv3, hc⟩
  replace hC := hC.non hc
  replace hbv := hbv.non hc
  replace hr := hr.non hc
  clear hc v0 v1
  have hpe : (viewN ep L).packErr = if (upto great ep && viewB L) then 0 else 1 := by unfold Nt.packErr; rw [viewN_clear, viewC_may]
  have hpp : (viewN ep L).pack = if (upto great ep && viewB L) then (viewC ep L).bytes else [] := by unfold Nt.pack; rw [viewN_clear, viewC_may]
  obtain ⟨A3, n3, c3, rfl, hn3, _, _, hr3⟩ := hv3.open_
  clear hv3
  obtain ⟨bb, hbb⟩ : ∃ bb, (upto great ep && viewB L) = bb := ⟨_, rfl⟩
  rw [hbb] at hpe hpp
  obtain ⟨pe, hpe2⟩ : ∃ pe : Int, (if bb = true then 0 else 1) = pe := ⟨_, rfl⟩
  rw [hpe, hpe2]
  have Hpe := Lib.hid hpe2
  clear hpe2
  have Hbb := Lib.hid hbb
  have Hpp := Lib.hid hpp
  clear hpe hpp hbb
  have v0 := hbv.cell 0
  have v1 := hbv.cell 1
  simp only [List.getElem?_toArray, List.getElem?_cons_zero, List.getElem?_cons_succ] at v0 v1
  go_upto_region 5 with (fail)
  go_cut [6] from 27 to 40 (fun v wx => v = .bool (okM ep n L 0) ∧ w3 = wx)
  case first =>
    by_cases g1 : 0 ≤ ep
    · by_cases g2 : ep ≤ 2147483647
      · have H : Hid (okM ep n L 0 = decide ((n : Int) ≤ 16)) := by show _ = _; unfold okM; rw [show upto great ep = true from by rw [upto_iff]; exact ⟨g1, g2⟩]; simp [memsB]
        go_wp2_with fail
        go_meet
        exact ⟨by rw [H.out], rfl⟩
      · have H : Hid (okM ep n L 0 = false) := by show _ = _; unfold okM upto; rw [show decide (ep ≤ great) = false from decide_eq_false g2]; simp
        go_wp2_with fail
        go_meet
        exact ⟨by rw [H.out], rfl⟩
    · have H : Hid (okM ep n L 0 = false) := by show _ = _; unfold okM upto; rw [show decide (0 ≤ ep) = false from decide_eq_false g1]; simp
      go_wp2_with fail
      go_meet
      exact ⟨by rw [H.out], rfl⟩
  case rest =>
    obtain ⟨rfl, rfl⟩ := hcut
    go_wp2_with fail
    clear v0 v1
    go_loopw [6, 7] (fun b i wr => ∃ k : Nat, k ≤ n ∧ i = .int .i64 k ∧ b = .bool (okM ep n L k) ∧ Chg Non w3 wr) (fun _ i _ => n - (intOf i).toNat)
    case atStart => exact ⟨0, Nat.zero_le _, rfl, rfl, Chg.refl _ _⟩
    case round =>
      obtain ⟨k, hk, rfl, rfl, hCr⟩ := hrel
      have hbr := hbv.non hCr
      have v1 := hbr.cell 1
      simp only [List.getElem?_toArray, List.getElem?_cons_zero, List.getElem?_cons_succ] at v1
      obtain ⟨b, hb⟩ : ∃ b, okM ep n L k = b := ⟨_, rfl⟩
      rw [hb]
      by_cases hlt : k < n
      · obtain ⟨ad, m, hA, hx, hc0, hc1⟩ := (hr.non hCr).getM hlt
        have hst := okM_succ ep n hx
        rw [hb] at hst
        subst hA
        have hpre : 0 < k → ∃ (j : Nat) (m2 : Mb), k = j + 1 ∧ lastM L k = m2.1 ∧ wr.cell? (ad.add (j * 2)) = some (.int .i64 m2.1) := by
          intro hk0
          obtain ⟨j, rfl⟩ : ∃ j, k = j + 1 := ⟨k - 1, by omega⟩
          obtain ⟨ad2, m2, e2, hx2, hd0, _⟩ := (hr.non hCr).getM (k := j) (by omega)
          cases e2
          exact ⟨j, m2, rfl, lastM_succ hx2, hd0⟩
        obtain ⟨w4, ew4⟩ : ∃ wq, wr.alloc (.cells #[.int .i64 m.1, .int .i64 m.2] 50) = wq := ⟨_, rfl⟩
        have hc4 : Chg Non wr w4 := ew4 ▸ (Chg.refl _ _).alloc _
        have hb4 : Blk w4 wr.heap.size 50 #[.int .i64 m.1, .int .i64 m.2] := ew4 ▸ Blk.new _ _ _
        have hC4 := hCr.non hc4
        have y0 := hb4.cell 0
        have y1 := hb4.cell 1
        simp only [List.getElem?_toArray, List.getElem?_cons_zero, List.getElem?_cons_succ] at y0 y1
        have z1 := (hbr.non hc4).cell 1
        simp only [List.getElem?_toArray, List.getElem?_cons_zero, List.getElem?_cons_succ] at z1
        have Hst := Lib.hid hst
        have Hpre := Lib.hid hpre
        have Hc4 := Lib.hid hc4
        clear hst hpre hx hb hb4 hc4 hbr
        cases b with
        | false =>
          have hend : Hid (okM ep n L (k + 1) = false) := by show _ = _; rw [Hst.out]; rfl
          go_wp2_with fail
          go_quiet (fail)
          go_wp2_with fail
          go_roundw
          case rel => exact ⟨k + 1, by omega, by go_num, by rw [hend.out], hC4.drewN _⟩
          case measure => simp [intOf]; omega
        | true =>
          cases t1 : decide (0 ≤ m.1) with
          | false =>
            have hend : Hid (okM ep n L (k + 1) = false) := by show _ = _; rw [Hst.out]; have ht : upto 15 m.1 = false := (by have := of_decide_eq_false t1; unfold upto; simp; omega); rw [ht]; simp
            go_wp2_with fail
            go_quiet (fail)
            go_wp2_with fail
            go_roundw
            case rel => exact ⟨k + 1, by omega, by go_num, by rw [hend.out], hC4.drewN _⟩
            case measure => simp [intOf]; omega
          | true =>
            cases t2 : decide (m.1 < 16) with
            | false =>
              have hend : Hid (okM ep n L (k + 1) = false) := by show _ = _; rw [Hst.out]; have ht : upto 15 m.1 = false := (by have := of_decide_eq_false t2; unfold upto; simp; omega); rw [ht]; simp
              go_wp2_with fail
              go_quiet (fail)
              go_wp2_with fail
              go_roundw
              case rel => exact ⟨k + 1, by omega, by go_num, by rw [hend.out], hC4.drewN _⟩
              case measure => simp [intOf]; omega
            | true =>
              cases t3 : decide (0 ≤ m.2) with
              | false =>
                have hend : Hid (okM ep n L (k + 1) = false) := by show _ = _; rw [Hst.out]; have ht : upto 2147483647 m.2 = false := (by have := of_decide_eq_false t3; unfold upto; simp; omega); rw [show upto great m.2 = upto 2147483647 m.2 from rfl, ht]; simp
                go_wp2_with fail
                go_quiet (fail)
                go_wp2_with fail
                go_roundw
                case rel => exact ⟨k + 1, by omega, by go_num, by rw [hend.out], hC4.drewN _⟩
                case measure => simp [intOf]; omega
              | true =>
                cases t4 : decide (m.2 ≤ 2147483647) with
                | false =>
                  have hend : Hid (okM ep n L (k + 1) = false) := by show _ = _; rw [Hst.out]; have ht : upto 2147483647 m.2 = false := (by have := of_decide_eq_false t4; unfold upto; simp; omega); rw [show upto great m.2 = upto 2147483647 m.2 from rfl, ht]; simp
                  go_wp2_with fail
                  go_quiet (fail)
                  go_wp2_with fail
                  go_roundw
                  case rel => exact ⟨k + 1, by omega, by go_num, by rw [hend.out], hC4.drewN _⟩
                  case measure => simp [intOf]; omega
                | true =>
                  have hu1 : upto 15 m.1 = true := by have := of_decide_eq_true t1; have := of_decide_eq_true t2; rw [upto_iff]; omega
                  have hu2 : upto 2147483647 m.2 = true := by have := of_decide_eq_true t3; have := of_decide_eq_true t4; rw [upto_iff]; omega
                  have hu2 : upto great m.2 = true := hu2
                  have hm0 : 0 ≤ m.1 := of_decide_eq_true t1
                  have Hu1 := Lib.hid hu1
                  have Hu2 := Lib.hid hu2
                  clear hu1 hu2
                  rcases Nat.eq_zero_or_pos k with hk0 | hk0
                  · subst hk0
                    rw [Nat.zero_mul, addr_add0] at hc0 hc1
                    have hend : Hid (okM ep n L (0 + 1) = true) := by show _ = _; rw [Hst.out]; rw [Hu1.out, Hu2.out, show decide (lastM L 0 < m.1) = true from decide_eq_true (by show -1 < m.1; omega)]; rfl
                    go_wp2_with fail
                    go_quiet (fail)
                    go_wp2_with fail
                    go_roundw
                    case rel => exact ⟨0 + 1, by omega, by go_num, by rw [hend.out], hC4.drewN _⟩
                    case measure => simp [intOf]; omega
                  · obtain ⟨j, m2, rfl, hl, hd0⟩ := Hpre.out hk0
                    have d0 := Hc4.out.cell hd0 id
                    have hs1 : IntKind.i64.wrap (((j + 1 : Nat) : Int) - 1) = (j : Int) := by rw [IntKind.wrap_i64]; omega
                    have tz : (((j + 1 : Nat) : Int) == 0) = false := by rw [beq_eq_false_iff_ne]; omega
                    have tz2 : ((j : Int) + 1 == 0) = false := by rw [beq_eq_false_iff_ne]; omega
                    clear hd0
                    have Hl := Lib.hid hl
                    clear hl Hpre
                    cases t5 : decide (m2.1 < m.1) with
                    | false =>
                      have hend : Hid (okM ep n L (j + 1 + 1) = false) := by show _ = _; rw [Hst.out]; rw [Hl.out, t5]; simp
                      go_wp2_with fail
                      go_quiet (fail)
                      go_wp2_with fail
                      go_roundw
                      case rel => exact ⟨j + 1 + 1, by omega, by go_num, by rw [hend.out], hC4.drewN _⟩
                      case measure => simp [intOf]; omega
                    | true =>
                      have hend : Hid (okM ep n L (j + 1 + 1) = true) := by show _ = _; rw [Hst.out]; rw [Hl.out, t5, Hu1.out, Hu2.out]; rfl
                      go_wp2_with fail
                      go_quiet (fail)
                      go_wp2_with fail
                      go_roundw
                      case rel => exact ⟨j + 1 + 1, by omega, by go_num, by rw [hend.out], hC4.drewN _⟩
                      case measure => simp [intOf]; omega
      · obtain rfl : k = n := by omega
        have hbe : b = bb := by
          rw [← hb, ← Hbb.out]
          have := Hnl.out
          subst this
          exact okM_all ep L
        subst hbe
        have hCw := hC.non hCr
        have hrw := hr.non hCr
        have hr3w := hr3.non hCr
        clear hb hbv hr hr3 hC hCr
        cases b with
        | false =>
          obtain rfl : 1 = pe := Hpe.out
          have hn0 : n3 = 0 := by have := hn3.out; rw [Hpp.out] at this; simpa using this
          subst hn0
          clear Hpp hn3 Hbb
          go_wp2_with fail
          refine (num_any _ _).mono ?_
          rintro x w9 ⟨rfl, rfl⟩
          go_wp2_with fail
          go_ret
          exact ⟨rfl, hCw⟩
        | true =>
          obtain rfl : 0 = pe := Hpe.out
          have hI : IsNote (viewC ep L).bytes (viewC ep L) := ⟨viewC_ok he hL, viewC_clear ep L, by rw [viewC_may]; exact Hbb.out, rfl⟩
          have Hrd := Lib.hid (rd_is hI)
          have hpp2 : (viewN ep L).pack = (viewC ep L).bytes := by rw [Hpp.out]; rfl
          rw [hpp2] at hr3w hn3
          have hl3 : (viewC ep L).bytes.length ≤ 4000 := by
            have h0 : ∀ l : List Mb, (l.flatMap memB).length ≤ 20 * l.length := by
              intro l
              induction l with
              | nil => simp
              | cons y l ih =>
                have e1 := (num_len y.1).2
                have e2 := (num_len y.2).2
                simp only [List.flatMap_cons, List.length_append, List.length_cons, memB]
                omega
            have h1 := (num_len ep).2
            have h2 := (num_len (L.length : Int)).2
            have h3 := (num_len 2).2
            have h4 := h0 L
            have h5 := Hnl.out
            have : (viewC ep L).bytes = num 2 ++ (num ep ++ (num L.length ++ L.flatMap memB)) := by simp [Nt.bytes, viewC, Nt.zero, partsL, putP]
            rw [this]
            simp only [List.length_append]
            omega
          clear hI hpp2 Hpp
          have v0 := hbr.cell 0
          simp only [List.getElem?_toArray, List.getElem?_cons_zero, List.getElem?_cons_succ] at v0
          go_wp2_with fail
          refine (num_any _ _).mono ?_
          rintro x w9 ⟨rfl, rfl⟩
          go_wp2_with fail
          refine (read_any wr A3 n3 c3 (viewC ep L).bytes hr3w (by omega)).mono ?_
          rintro x w4 ⟨A4, k4, c4, B4, m4, d4, rfl, hown, hc4⟩
          have hr0 : rdE (viewC ep L).bytes = 0 := by unfold rdE; rw [Hrd.out.1]; rfl
          rw [Hrd.out.2, hr0]
          rw [Hrd.out.2] at hown
          replace hCw := hCw.non hc4
          replace hrw := hrw.non hc4
          replace hbr := hbr.non hc4
          clear v0 v1 hr0 Hrd hr3w hl3 hn3 Hbb
          have hm4 := hown.mems.rds
          have hm4 : Rds w4 2 B4 m4 (mv L) := hm4
          have hml : m4 = k := by have h1 := hm4.lenM; have h2 := hrw.lenM; omega
          subst hml
          obtain ⟨w5, e5⟩ : ∃ wq, w4.alloc (.cells (NtC (viewC ep L) A4 k4 c4 B4 m4 d4) 31) = wq := ⟨_, rfl⟩
          have hc5 : Chg Non w4 w5 := e5 ▸ (Chg.refl _ _).alloc _
          have hb5 : Blk w5 w4.heap.size 31 (NtC (viewC ep L) A4 k4 c4 B4 m4 d4) := e5 ▸ Blk.new _ _ _
          replace hCw := hCw.non hc5
          replace hrw := hrw.non hc5
          replace hbr := hbr.non hc5
          replace hm4 := hm4.non hc5
          clear hc4 hc5 hown
          have E5 := Lib.hid e5
          clear e5
          unfold viewC NtC
          simp only [Nt.zero]
          go_wp2_with fail
          have e5 := E5.out
          unfold viewC NtC at e5
          simp only [Nt.zero] at e5
          rw [e5]
          clear e5 E5
          refine (num_any _ _).mono ?_
          rintro x w9 ⟨rfl, rfl⟩
          have v0 := hbr.cell 0
          have v1 := hbr.cell 1
          simp only [List.getElem?_toArray, List.getElem?_cons_zero, List.getElem?_cons_succ] at v0 v1
          have y0 := hb5.cell 0
          have y1 := hb5.cell 1
          have y2 := hb5.cell 2
          have y9 := hb5.cell 9
          have y10 := hb5.cell 10
          simp only [NtC, viewC, Nt.zero, List.getElem?_toArray, List.getElem?_cons_zero, List.getElem?_cons_succ] at y0 y1 y2 y9 y10
          go_wp2_with fail
          refine (sameView_any w5 ep ep B4 m4 d4 A m4 c L L hm4 hrw (by omega)).mono ?_
          rintro x w6 ⟨rfl, hc6⟩
          rw [show (ep == ep && L == L) = true from by simp]
          clear v0 v1 y0 y1 y2 y9 y10
          replace hCw := hCw.non hc6
          replace hb5 := hb5.non hc6
          have y0 := hb5.cell 0
          have y1 := hb5.cell 1
          have y2 := hb5.cell 2
          have y9 := hb5.cell 9
          have y10 := hb5.cell 10
          simp only [NtC, viewC, Nt.zero, List.getElem?_toArray, List.getElem?_cons_zero, List.getElem?_cons_succ] at y0 y1 y2 y9 y10
          go_wp2_with fail
          go_ret
          exact ⟨rfl, hCw⟩

theorem noteViews_walk (w : World) (S : Array Value) (e0 : Rd Try.prog w 29 (Value.agg S).cells.toList) :
    Calls Try.prog 8 #[.agg S] w fun x w2 => x = .returned (.bool true) ∧ Chg Non w w2 := by
  have hl := Rd.len Try.underlying29 e0
  rw [show Try.prog.cellsOf 29 = 2 by kernel_rfl] at hl
  obtain ⟨_, hg⟩ := e0.struct Try.underlying29 (by kernel_rfl)
  simp only [Value.cells] at hl hg
  obtain ⟨l, rfl⟩ : ∃ l : List Value, S = l.toArray := ⟨S.toList, by simp⟩
  simp only [List.toList_toArray] at hl hg
  match l, hl, hg with
  | [a, b], _, hg =>
    obtain ⟨ep, hx, he⟩ := (hg 0 _ rfl a rfl).i64 Try.underlying3
    obtain ⟨A, n, c, L, hy, h1, h2, h3, h4⟩ := Rd.members (hg 1 _ rfl b rfl)
    simp only [List.cons.injEq, and_true] at hx hy
    subst hx hy
    by_cases hn : n ≤ 100
    · exact noteViews_core w ep A n c L he h3 h4 h1 h2 hn
    · clear h3 h4 he hg e0
      unfold maxLen at h2
      have hC : Chg Non w (w.alloc (.cells #[.int .i64 ep, .slice A n c] 29)) := (Chg.refl _ _).alloc _
      have hb : Blk (w.alloc (.cells #[.int .i64 ep, .slice A n c] 29)) w.heap.size 29 #[.int .i64 ep, .slice A n c] := Blk.new _ _ _
      go_enter Try.func8, Try.ntmps8
      go_wp2_with fail
      refine (note_alive _).mono ?_
      rintro x w2 ⟨rfl, hc⟩
      have v1 := (hb.non hc).cell 1
      simp only [List.getElem?_toArray, List.getElem?_cons_zero, List.getElem?_cons_succ] at v1
      have hC2 := hC.non hc
      clear hb hc hC
      go_wp2_with fail
      go_ret
      exact ⟨rfl, hC2⟩
end Go.Proofs.Ytclpmadecibofaa
