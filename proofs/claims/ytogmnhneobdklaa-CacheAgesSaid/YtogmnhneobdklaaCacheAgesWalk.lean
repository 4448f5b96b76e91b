/-
  gleanerlaw23.CacheAges: the walk.
-/
import Derived.Test.YtogmnhneobdklaaAgesPlain
import Derived.Test.YtogmnhneobdklaaRefSort
import Derived.Test.YtogmnhneobdklaaRowN
namespace Go.Proofs.Ytogmnhneobdklaa
open Go.RowKit
set_option linter.unusedVariables false
set_option linter.unusedSimpArgs false

abbrev nF : ByteArray := ⟨#[15, 15]⟩
/-- The rounds. -/
def RelA (w : World) (n g mw size : Nat) (v i : Value) (wr : World) : Prop :=
  ∃ (k q : Nat) (s : CaS) (G : Nat → Prop) (f : ByteArray → Option Nat) (D : ByteArray → ByteArray → Bool), k ≤ n ∧ i = .int .i64 k ∧ Win rkI wr v s.R.length (sv s.R) ∧ Fn size s ∧ CW wr G g mw s 0 q f D ∧ (∀ a, f a = none) ∧ q ≤ k ∧ (∀ b, G b → w.heap.size ≤ b) ∧ (∀ b, v.ownBlock = some b → w.heap.size ≤ b ∧ ¬ G b) ∧ Chg Non w wr

set_option maxRecDepth 100000 in
set_option maxHeartbeats 8000000 in
theorem cacheAges_core (wo : World) (size : Nat) (h1 : 1 ≤ size) (h10 : size ≤ 10) (A0 : Option Addr) (n c0 : Nat) (l : List Int) (hr : Rds wo 1 A0 n (iv l)) (hl : ∀ x ∈ l, i64 x) (hn : n ≤ 100) :
    Calls Try.prog 3 #[.int .i64 size, .slice A0 n c0] wo fun e w2 => e = .returned (.bool true) ∧ Chg Non wo w2 := by
  have Hr := Lib.hid hr
  have hsz1 : (1 : Int) ≤ (size : Int) := by omega
  have hsz2 : (size : Int) ≤ 10 := by omega
  clear hr hl
  go_enter Try.func3, Try.ntmps3
  go_wp2_with fail
  refine (cache_alive _).mono ?_
  rintro e w1 ⟨rfl, hc1⟩
  go_wp2_with fail
  refine (cwNew size (by omega) w1).mono ?_
  rintro e w2 ⟨g, mw, G, rfl, hW, hG, hc2⟩
  have hini : RelA wo n g mw size (.slice none 0 0) (.int .i64 0) w2 := ⟨0, 0, ⟨[], size, fun _ => none, 0⟩, G, _, _, Nat.zero_le _, rfl, Win.nil _ _, ⟨rfl, rfl, Nat.zero_le _, List.nodup_nil, (fun x hx => by simp at hx), (fun y _ hx => by simp at hx), fun _ _ => rfl⟩, hW, fun _ => rfl, Nat.le_refl _, (fun b hb => by have := hG b hb; have := hc1.size; omega), (fun b h => by cases h), hc1.non hc2⟩
  have Hini := Lib.hid hini
  have hgl2 := hW.gl
  clear hini hW hG hc1 hc2 hgl2
  go_wp2_with fail
  go_loopw [7, 8] (RelA wo n g mw size) (fun _ i _ => n - (intOf i).toNat)
  case atStart => exact Hini.out
  case round =>
    clear Hini
    obtain ⟨t, q, s, G, f, D, ht, rfl, hwin, hF, hW, hf, hq, hG, hvG, hC⟩ := hrel
    have hle := hF.le
    have hg := hW.gl
    by_cases hlt : t < n
    · obtain ⟨ad, x, rfl, hx, hc0⟩ := Hr.out.getI hlt
      have a0 := hC.cell hc0 _root_.id
      obtain ⟨y, hy, hand, hmod⟩ := and15 x
      have qc := conv1 (k := y) (by omega) wr
      have b1 : (0 : Int) ≤ (t : Int) := by omega
      have b2 : (t : Int) < n := by omega
      have b3 : (y : Int) ≤ 255 := by omega
      have hc3 : Chg Non wr (wr.alloc (.cells #[.int .u8 (y : Int)] 5)) := (Chg.refl _ _).alloc _
      have hW1 := hW.non hc3
      have hC1 := hC.non hc3
      have hwin1 := hwin.non hc3
      have hadl : ad.block < wo.heap.size := by have h2 := World.block_lt_of_cell? wo _ hc0; rw [block_add] at h2; exact h2
      obtain ⟨A, c, rfl, hnc, hcm, hrd⟩ := hwin1.open_
      have HF := Lib.hid hF
      have HW1 := Lib.hid hW1
      have HC1 := Lib.hid hC1
      have Hwin := Lib.hid hwin1
      have HG := Lib.hid hG
      have HvG := Lib.hid hvG
      have Hf := Lib.hid hf
      have Hc0 := Lib.hid hc0
      have hs1 := hC1.size
      clear hF hW hW1 hwin hwin1 hC hC1 hG hvG hf hc0 hx hmod hc3
      go_wp2_with fail
      go_loop [10] (fun i => ∃ j : Nat, j ≤ s.R.length ∧ i = .int .i64 j ∧ Hid (∀ z ∈ s.R.take j, z ≠ id1 y)) (fun i => s.R.length - (intOf i).toNat)
      case atStart => exact ⟨0, Nat.zero_le _, rfl, (by intro z hz; simp at hz)⟩
      case round =>
        obtain ⟨j, hj, rfl, hno⟩ := hrel
        by_cases hltj : j < s.R.length
        · obtain ⟨ag, z, rfl, hz, hcz⟩ := hrd.getS hltj
          have e1 : (0 : Int) ≤ (j : Int) := by omega
          have e2 : (j : Int) < s.R.length := by omega
          by_cases hzy : z = id1 y
          · subst hzy
            have hmem := List.mem_of_getElem? hz
            have hask := cwAskKnown (wr.alloc (.cells #[.int .u8 (y : Int)] 5)) G g mw 0 q s f D (id1 y) nF 0 y HW1.out (id1_vid hy) (by decide) (HF.out.has y hy hmem) (by omega)
            have hcut := useR_cut HF.out.nodup hz
            have hlen := useR_len HF.out.nodup hz
            have hF2 := HF.out.use hz
            have hlo := fun w => run_slice_lo (P := Try.prog) Try.underlying26 1 (by kernel_rfl) (by kernel_rfl) (kl := .i64) (i := (j : Int) + 1) (k := j + 1) (n := s.R.length) (by omega) (by omega) (some ag) c w
            have hlo2 := fun w => run_slice_lo (P := Try.prog) Try.underlying26 1 (by kernel_rfl) (by kernel_rfl) (kl := .i64) (i := IntKind.i64.wrap ((j : Int) + 1)) (k := j + 1) (n := s.R.length) (by rw [IntKind.wrap_i64]; omega) (by omega) (some ag) c w
            have hhi := fun w => run_slice_hi (P := Try.prog) Try.underlying26 (by kernel_rfl) (kl := .i64) (i := (j : Int)) (k := j) (c := c) rfl (by omega) (some ag) s.R.length w
            have Hlo := Lib.hid hlo
            have Hlo2 := Lib.hid hlo2
            have Hhi := Lib.hid hhi
            have Hcut := Lib.hid hcut
            have Hlen := Lib.hid hlen
            have HF2 := Lib.hid hF2
            clear hlo hlo2 hhi hcut hlen hF2 hmem hz
            go_wp2_with fail
            refine hask.mono ?_
            rintro e w4 ⟨rfl, G4, hW4, hG4, hc4⟩
            have hC4 := HC1.out.trans2 hc4 (fun b e => .inr (HG.out b e))
            have hwin4 := Hwin.out.chg hc4 (fun b e h => (HvG.out b e).2 h)
            have hG4' : ∀ b, G4 b → wo.heap.size ≤ b := fun b hb => (hG4 b hb).elim (HG.out b) (fun h => by have := HC1.out.size; omega)
            have a4 := hC4.cell Hc0.out _root_.id
            have hs4 := hC4.size
            have HW4 := Lib.hid hW4
            have HG4 := Lib.hid hG4'
            clear hask hG4 hG4' hc4 hW4 HW1 HC1 Hwin hrd a0 hcz qc
            go_wp2_with fail
            obtain ⟨w5, hw5⟩ : ∃ w5, w4.alloc (.cells #[.int .i64 0, .int .i64 (y : Int)] 31) = w5 := ⟨_, rfl⟩
            have hc5 : Chg Non w4 w5 := hw5 ▸ (Chg.refl _ _).alloc _
            have hb5 : Blk w5 w4.heap.size 31 #[.int .i64 0, .int .i64 (y : Int)] := hw5 ▸ Blk.new _ _ _
            have k5 : w5.cell? ⟨w4.heap.size, 1, none⟩ = some (.int .i64 (y : Int)) := hb5.cell 1
            have a5 := hc5.cell a4 _root_.id
            rw [hw5]
            go_quiet (fail)
            obtain ⟨wD, hwD⟩ : ∃ wD, w5.drewN nq = wD := ⟨_, rfl⟩
            rw [hwD]
            have hcD : Chg Non w5 wD := hwD ▸ (Chg.refl Non w5).drewN nq
            have hC5 := hc5.non hcD
            have hCD := hC4.non hC5
            have hwinD := hwin4.non hC5
            have HWD := Lib.hid (HW4.out.non hC5)
            have hsD := hC5.size
            have hrr : Rds wD 1 (some ag) s.R.length (sv s.R) := hwinD.rds
            have hr1 : Rds wD 1 (cutA (some ag) c (j + 1) 1) (s.R.length - (j + 1)) (sv (s.R.drop (j + 1))) := by
              have := hrr.cutA (k := j + 1) (by omega) hnc
              rw [show (sv s.R).drop ((j + 1) * 1) = sv (s.R.drop (j + 1)) by simp [sv]] at this
              exact this
            have hr2 : Rds wD 1 (some ag) j (sv (s.R.take j)) := by
              have := hrr.upto (k := j) (by omega)
              rw [show (sv s.R).take (j * 1) = sv (s.R.take j) by simp [sv]] at this
              exact this
            have hlo := Hlo.out
            have hlo2 := Hlo2.out
            have hhi := Hhi.out
            have Hol := Lib.hid (show ∀ b, G4 b → b < wD.heap.size from fun b hb => HWD.out.lt b hb)
            have HCD := Lib.hid hCD
            clear hw5 hc5 hb5 k5 a5 a4 hwD hcD hC5 hCD hwinD hwin4 HW4 hC4
            go_wp2_with (first
              | (at_builtin; refine appR (K := rkI) rfl _ (.tmp 92) rfl (OwnR.nil rkI wD wD.heap.size) rfl hr1 rfl (svI_one _) ?_ ?_ ?_; (next => omega); (next => exact Nat.le_refl _); intro v1 w1 o1 c1 _; have d1 := c1.mono (S2 := Non) (fun _ e => by cases e); simp only [Nat.zero_add, List.nil_append] at o1; clear c1; have s1 := d1.size)
              | (at_builtin; refine appR (K := rkI) rfl _ (.tmp 96) rfl (OwnR.nil rkI w1 w1.heap.size) rfl (hr2.non d1) rfl (svI_one _) ?_ ?_ ?_; (next => omega); (next => exact Nat.le_refl _); intro v2 w2 o2 c2 _; have d2 := c2.mono (S2 := Non) (fun _ e => by cases e); simp only [Nat.zero_add, List.nil_append] at o2; clear c2; have s2 := d2.size; have o1b := o1.non d2)
              | (obtain ⟨A1, e1, rfl, _, _, r1, _⟩ := o1b.open_; at_builtin; refine appR (K := rkI) rfl (.tmp 97) (.tmp 98) rfl o2 rfl r1 rfl (svI_one _) ?_ ?_ ?_; (next => omega); (next => exact s2); intro v3 w3 o3 c3 _; have d3 := OwnR.chgApp o2 (Chg.refl Non w1 |>.non d2) (Nat.le_refl _) c3; have s3 := d3.size)
              | (at_builtin; refine appR1 (K := rkI) rfl (.tmp 99) (.tmp 101) rfl o3 rfl (cs := #[.string (id1 y)]) rfl rfl (svI_one [id1 y]) ?_ ?_ ?_; (next => omega); (next => exact s3); intro v4 w6 o4 c4 _; have d4 := OwnR.chgApp o3 (d1.non d3) s1 c4))
            have hw9 : Win rkI w6 v4 (useR s.R (id1 y)).length (sv (useR s.R (id1 y))) := by
              have o5 := Win.of_own o4
              rw [Hlen.out, Hcut.out]
              rw [show j + (s.R.length - (j + 1)) + 1 = s.R.length by omega] at o5
              simpa [sv] using o5
            have hrel : RelA wo n g mw size v4 (.int .i64 ((t + 1 : Nat) : Int)) w6 := ⟨t + 1, q, _, G4, f, D, by omega, rfl, hw9, HF2.out, HWD.out.non d4, Hf.out, by omega, HG4.out, fun b e => ⟨by have := (o4.lt e).1; omega, fun h => by have := (o4.lt e).1; have := Hol.out b h; omega⟩, HCD.out.non d4⟩
            have Hrel := Lib.hid hrel
            clear hrel hw9 o1 o1b o2 o3 o4 d1 d2 d3 d4 r1 hr1 hr2 hrr
            go_wp2_with fail
            go_roundw
            case rel => exact Hrel.out
            case measure => simp [intOf]; omega
          · have Hz := Lib.hid (show ∀ z ∈ s.R.take (j + 1), z ≠ id1 y by
              intro u hu
              rw [List.take_add_one, hz] at hu
              rcases List.mem_append.1 hu with hu | hu
              · exact hno.out u hu
              · have e : u = z := by simpa using hu
                rw [e]; exact hzy)
            have e3 := str_ne hzy
            clear hz hzy hno
            go_wp2_with fail
            go_round
            case rel => exact ⟨j + 1, by omega, by go_num, Hz⟩
            case measure => simp [intOf]; omega
        · obtain rfl : j = s.R.length := by omega
          have hnot : id1 y ∉ s.R := by
            intro hm
            exact hno.out _ (by rw [List.take_of_length_le (Nat.le_refl _)]; exact hm) rfl
          have hask := cwAskNew (wr.alloc (.cells #[.int .u8 (y : Int)] 5)) G g mw 0 q s f D (id1 y) nF HW1.out (id1_vid hy) (by decide) (HF.out.no _ hnot) (by omega) (by omega)
          have Hnot := Lib.hid hnot
          clear hnot hno
          go_wp2_with fail
          refine hask.mono ?_
          rintro e w4 ⟨G4, n4, f4, rfl, hW4, hn4, hf4, hi4, hG4, hc4⟩
          rw [Hf.out (id1 y)] at hn4
          obtain rfl : n4 = 1 := hn4
          rw [Hf.out (id1 y)]
          simp only [Option.isNone_none]
          have hfo : ∀ a, (if a = id1 y then none else f4 a) = none := fun a => by
            by_cases e : a = id1 y
            · rw [if_pos e]
            · rw [if_neg e, hf4 a e, Hf.out a]
          have hC4 := HC1.out.trans2 hc4 (fun b e => .inr (HG.out b e))
          have hwin4 := Hwin.out.chg hc4 (fun b e h => (HvG.out b e).2 h)
          have hG4' : ∀ b, G4 b → wo.heap.size ≤ b := fun b hb => (hG4 b hb).elim (HG.out b) (fun h => by have := HC1.out.size; omega)
          have hv4 : ∀ b, (Value.slice A s.R.length c).ownBlock = some b → ¬ G4 b := fun b e h => (hG4 b h).elim (HvG.out b e).2 (fun h => by have := Hwin.out.lt e; omega)
          have a4 := hC4.cell Hc0.out _root_.id
          have hs4 := hC4.size
          have HW4 := Lib.hid hW4
          have HG4 := Lib.hid hG4'
          have Hv4 := Lib.hid hv4
          have Hfo := Lib.hid hfo
          have Hi4 := Lib.hid hi4
          clear hask hG4 hG4' hv4 hfo hi4 hf4 hc4 hW4 HW1 HC1 Hwin hrd a0 qc
          go_wp2_with fail
          obtain ⟨w5, hw5⟩ : ∃ w5, w4.alloc (.cells #[.int .i64 0, .int .i64 0] 31) = w5 := ⟨_, rfl⟩
          have hc5 : Chg Non w4 w5 := hw5 ▸ (Chg.refl _ _).alloc _
          have a5 := hc5.cell a4 _root_.id
          have hb5 : Blk w5 w4.heap.size 31 #[.int .i64 0, .int .i64 0] := hw5 ▸ Blk.new _ _ _
          have k5 : w5.cell? ⟨w4.heap.size, 1, none⟩ = some (.int .i64 0) := hb5.cell 1
          rw [hw5]
          go_quiet (fail)
          obtain ⟨wD, hwD⟩ : ∃ wD, w5.drewN nq = wD := ⟨_, rfl⟩
          rw [hwD]
          have hcD : Chg Non w5 wD := hwD ▸ (Chg.refl Non w5).drewN nq
          have hC5 := hc5.non hcD
          have hCD := hC4.non hC5
          have hwinD := hwin4.non hC5
          have hWD := HW4.out.non hC5
          have hsD := hC5.size
          have aD := hC5.cell a4 _root_.id
          have HCD := Lib.hid hCD
          have HwinD := Lib.hid hwinD
          clear hw5 hc5 hb5 k5 a5 a4 hwD hcD hC5 hCD hwinD hwin4 HW4 hC4
          by_cases hroom : s.R.length + 1 ≤ size
          · have hput := cwPutRoom wD G4 g mw 1 (q + 1) s f4 _ (id1 y) 0 y (by rw [HF.out.nr, HF.out.sz]; omega) hWD (id1_vid hy) (HF.out.no _ Hnot.out) (by omega) (by rw [HF.out.nr]; omega) (by omega)
            have hF2 := HF.out.room hy Hnot.out hroom
            have HF2 := Lib.hid hF2
            clear hF2 hWD
            go_wp2_with fail
            refine hput.mono ?_
            rintro e w6 ⟨A6, L6, c6, G6, rfl, _, _, _, _, hW6, hG6, hc6⟩
            rw [Hi4.out] at hW6
            have hC6 := HCD.out.trans2 hc6 (fun b e => .inr (HG4.out b e))
            have hG6' : ∀ b, G6 b → wo.heap.size ≤ b := fun b hb => (hG6 b hb).elim (HG4.out b) (fun h => by have := HCD.out.size; omega)
            have hv6 : ∀ b, G6 b → ¬ (Value.slice A s.R.length c).ownBlock = some b := fun b h e => (hG6 b h).elim (Hv4.out b e) (fun h => by have := HwinD.out.lt e; omega)
            have hwin6 := HwinD.out.chg hc6 (fun b e h => Hv4.out b e h)
            have hs6 := hC6.size
            obtain ⟨s2, f2, D2, hR2, hF3, hf3, hW6⟩ : ∃ (s2 : CaS) (f2 : ByteArray → Option Nat) (D2 : ByteArray → ByteArray → Bool), s2.R = (useR s.R (id1 y)) ∧ Fn size s2 ∧ (∀ a, f2 a = none) ∧ CW w6 G6 g mw s2 0 (q + 1) f2 D2 := ⟨_, _, _, rfl, HF2.out, Hfo.out, hW6⟩
            obtain ⟨K2, hK2⟩ : ∃ K2, risenS (useR s.R (id1 y)) = K2 := ⟨_, rfl⟩
            have HK2 := Lib.hid hK2
            have hKl : K2.length ≤ 1000000 := by rw [← hK2]; have := risenS_le (useR s.R (id1 y)); have := hF3.le; rw [hR2] at this; omega
            clear hK2
            have HF3 := Lib.hid hF3
            have Hf3 := Lib.hid hf3
            have HR2 := Lib.hid hR2
            clear hF3 hf3 hR2
            have HW6 := Lib.hid hW6
            have HC6 := Lib.hid hC6
            have Hv6 := Lib.hid hv6
            have HG6 := Lib.hid hG6'
            have hg6 := hW6.gl
            clear hput hW6 hC6 hG6 hG6' hv6 hc6 HwinD HCD aD
            go_wp2_with (at_builtin; refine appW1 (K := rkI) rfl (.tmp 112) (.tmp 114) rfl hwin6 rfl (cs := #[.string (id1 y)]) rfl rfl (svI_one [id1 y]) ?_ ?_; (next => omega); intro v7 w7 o7 c7 hb7; have hW7 := HW6.out.chg c7 (fun b e h => Hv6.out b e h); obtain ⟨A7, c7', rfl, hnc7, hcm7, hrd7⟩ := o7.open_; have hg7 := hW7.gl)
            have hrow : useR s.R (id1 y) = s.R ++ [id1 y] := useR_new Hnot.out
            have hwin7 : Win rkI w7 (.slice A7 (s.R.length + 1) c7') (s.R.length + 1) (sv (useR s.R (id1 y))) := by
              rw [hrow]
              simpa [sv] using o7
            have hRl : (useR s.R (id1 y)).length = s.R.length + 1 := by rw [hrow]; simp
            have hv7 : ∀ b, (Value.slice A7 (s.R.length + 1) c7').ownBlock = some b → wo.heap.size ≤ b ∧ ¬ G6 b := fun b e => (hb7 b e).elim (fun h => ⟨(HvG.out b h).1, fun hg => Hv6.out b hg h⟩) (fun h => ⟨by have := HC6.out.size; omega, fun hg => by have := HW6.out.lt b hg; omega⟩)
            have hrooms : ¬ ((s.R.length : Int) + 1 > size) := by omega
            have hC7 : Chg Non wo w7 := HC6.out.trans2 c7 (fun b e => .inr (HvG.out b e).1)
            have HC7 := Lib.hid hC7
            have Hwin7 := Lib.hid hwin7
            have Hv7 := Lib.hid hv7
            have hkn := cwKnown w7 G6 g mw 0 (q + 1) s2 f2 D2 hW7 (by have := HF3.out.le; omega)
            rw [HR2.out, HK2.out] at hkn
            have HW7 := Lib.hid hW7
            clear hC7 hwin7 hv7 hW7 HW6 HC6 Hv6 o7 c7 hb7 hrd7 hwin6
            go_wp2_with fail
            refine hkn.mono ?_
            rintro e w8 ⟨A8, m8, c8, rfl, hm8, hO8, hc8⟩
            have hso := refSort_any w8 A7 (s.R.length + 1) c7' (useR s.R (id1 y)) (Hwin7.out.non hc8).rds (by omega)
            rw [HK2.out] at hso
            have HC8 := Lib.hid (HC7.out.non hc8)
            have HW8 := Lib.hid (HW7.out.non hc8)
            have Hwin8 := Lib.hid (Hwin7.out.non hc8)
            have HO8 := Lib.hid hO8
            clear hkn hO8 hc8 HC7 HW7 Hwin7
            go_wp2_with fail
            refine hso.mono ?_
            rintro e w9 ⟨v9, m9, rfl, hm9, hO9, hc9⟩
            obtain ⟨A9, c9, rfl, _, _, hr9, _⟩ := hO9.open_
            subst hm8
            subst hm9
            have hsm := sameIDs_same w9 A8 K2.length c8 A9 c9 K2 (HO8.out.non hc9).rds hr9 (by omega)
            have HC9 := Lib.hid (HC8.out.non hc9)
            have HW9 := Lib.hid (HW8.out.non hc9)
            have Hwin9 := Lib.hid (Hwin8.out.non hc9)
            clear hso hO9 hc9 hr9 HC8 HW8 Hwin8 HO8
            go_wp2_with fail
            refine hsm.mono ?_
            rintro e w10 ⟨rfl, hc10⟩
            have hrel : RelA wo n g mw size (.slice A7 (s.R.length + 1) c7') (.int .i64 ((t + 1 : Nat) : Int)) w10 := ⟨t + 1, q + 1, s2, G6, f2, D2, by omega, rfl, by rw [HR2.out, hRl]; exact Hwin9.out.non hc10, HF3.out, HW9.out.non hc10, Hf3.out, by omega, HG6.out, Hv7.out, HC9.out.non hc10⟩
            have Hrel := Lib.hid hrel
            clear hrel hsm hc10 HC9 HW9 Hwin9
            go_wp2_with fail
            go_roundw
            case rel => exact Hrel.out
            case measure => simp [intOf]; omega
          · obtain ⟨x0, R', hR⟩ : ∃ x0 R', s.R = x0 :: R' := by
              cases hR : s.R with
              | nil => rw [hR] at hroom; simp at hroom; omega
              | cons x0 R' => exact ⟨x0, R', rfl⟩
            have hrooms : (s.R.length : Int) + 1 > size := by omega
            · skip
              have hUR : useR s.R (id1 y) = x0 :: (R' ++ [id1 y]) := by rw [useR_new Hnot.out, hR]; rfl
              have hx0 : x0.size ≤ maxLen := by
                obtain ⟨y0, hy0, e0⟩ := HF.out.form x0 (by rw [hR]; simp)
                rw [e0]
                exact id_small (id1_vid hy0)
              have hput := cwPutFull wD G4 g mw 1 (q + 1) s f4 _ (id1 y) 0 y x0 (R' ++ [id1 y]) hUR hx0 (by rw [HF.out.nr, HF.out.sz]; omega) hWD (id1_vid hy) (HF.out.no _ Hnot.out) (by omega) (by rw [HF.out.nr]; omega) (by omega)
              have hF2 := HF.out.full hy Hnot.out hR
              have HF2 := Lib.hid hF2
              have HR := Lib.hid hR
              have hl2 : (R' ++ [id1 y]).length = s.R.length := by rw [hR]; simp
              have Hl2 := Lib.hid hl2
              clear hl2
              clear hF2 hWD hUR hx0 hR
              go_wp2_with fail
              refine hput.mono ?_
              rintro e w6 ⟨A6, L6, c6, G6, rfl, _, _, _, _, hW6, hG6, hc6⟩
              rw [Hi4.out] at hW6
              have hC6 := HCD.out.trans2 hc6 (fun b e => .inr (HG4.out b e))
              have hG6' : ∀ b, G6 b → wo.heap.size ≤ b := fun b hb => (hG6 b hb).elim (HG4.out b) (fun h => by have := HCD.out.size; omega)
              have hv6 : ∀ b, G6 b → ¬ (Value.slice A s.R.length c).ownBlock = some b := fun b h e => (hG6 b h).elim (Hv4.out b e) (fun h => by have := HwinD.out.lt e; omega)
              have hwin6 := HwinD.out.chg hc6 (fun b e h => Hv4.out b e h)
              have hs6 := hC6.size
              obtain ⟨s2, f2, D2, hR2, hF3, hf3, hW6⟩ : ∃ (s2 : CaS) (f2 : ByteArray → Option Nat) (D2 : ByteArray → ByteArray → Bool), s2.R = (R' ++ [id1 y]) ∧ Fn size s2 ∧ (∀ a, f2 a = none) ∧ CW w6 G6 g mw s2 0 (q + 1) f2 D2 := ⟨_, _, _, rfl, HF2.out, Hfo.out, hW6⟩
              obtain ⟨K2, hK2⟩ : ∃ K2, risenS (R' ++ [id1 y]) = K2 := ⟨_, rfl⟩
              have HK2 := Lib.hid hK2
              have hKl : K2.length ≤ 1000000 := by rw [← hK2]; have := risenS_le (R' ++ [id1 y]); have := hF3.le; rw [hR2] at this; omega
              clear hK2
              have HF3 := Lib.hid hF3
              have Hf3 := Lib.hid hf3
              have HR2 := Lib.hid hR2
              clear hF3 hf3 hR2
              have HW6 := Lib.hid hW6
              have HC6 := Lib.hid hC6
              have Hv6 := Lib.hid hv6
              have HG6 := Lib.hid hG6'
              have hg6 := hW6.gl
              clear hput hW6 hC6 hG6 hG6' hv6 hc6 HwinD HCD aD
              go_wp2_with (at_builtin; refine appW1 (K := rkI) rfl (.tmp 112) (.tmp 114) rfl hwin6 rfl (cs := #[.string (id1 y)]) rfl rfl (svI_one [id1 y]) ?_ ?_; (next => omega); intro v7 w7 o7 c7 hb7; have hW7 := HW6.out.chg c7 (fun b e h => Hv6.out b e h); obtain ⟨A7, c7', rfl, hnc7, hcm7, hrd7⟩ := o7.open_; have hg7 := hW7.gl; have q5 := fun w => run_slice_lo (P := Try.prog) Try.underlying26 1 (by kernel_rfl) (by kernel_rfl) (kl := .i64) (i := 1) (k := 1) (n := s.R.length + 1) rfl (by omega) A7 c7' w; have hwl := o7.lo (k := 1) (by omega); have hv7' := fun (b : Nat) (e : (Value.slice (cutA A7 c7' 1 1) s.R.length (c7' - 1)).ownBlock = some b) => hb7 b (own_cut (n := s.R.length + 1) (c := c7') e); simp only [Nat.add_sub_cancel] at q5 hwl; simp only [Nat.mul_one, show rkI.size = 1 from rfl] at hwl; generalize cutA A7 c7' 1 1 = B7 at q5 hwl hv7')
              have hRl : (R' ++ [id1 y]).length = s.R.length := Hl2.out
              have hwin7 : Win rkI w7 (.slice B7 s.R.length (c7' - 1)) s.R.length (sv (R' ++ [id1 y])) := by
                rw [HR.out] at hwl ⊢
                simpa [sv] using hwl
              have hv7 : ∀ b, (Value.slice B7 s.R.length (c7' - 1)).ownBlock = some b → wo.heap.size ≤ b ∧ ¬ G6 b := fun b e => (hv7' b e).elim (fun h => ⟨(HvG.out b h).1, fun hg => Hv6.out b hg h⟩) (fun h => ⟨by have := HC6.out.size; omega, fun hg => by have := HW6.out.lt b hg; omega⟩)
              clear hwl hv7'
              have hC7 : Chg Non wo w7 := HC6.out.trans2 c7 (fun b e => .inr (HvG.out b e).1)
              have HC7 := Lib.hid hC7
              have Hwin7 := Lib.hid hwin7
              have Hv7 := Lib.hid hv7
              have hkn := cwKnown w7 G6 g mw 0 (q + 1) s2 f2 D2 hW7 (by have := HF3.out.le; omega)
              rw [HR2.out, HK2.out] at hkn
              have HW7 := Lib.hid hW7
              clear hC7 hwin7 hv7 hW7 HW6 HC6 Hv6 o7 c7 hb7 hrd7 hwin6
              go_wp2_with fail
              refine hkn.mono ?_
              rintro e w8 ⟨A8, m8, c8, rfl, hm8, hO8, hc8⟩
              have hso := refSort_any w8 B7 s.R.length (c7' - 1) (R' ++ [id1 y]) (Hwin7.out.non hc8).rds (by omega)
              rw [HK2.out] at hso
              have HC8 := Lib.hid (HC7.out.non hc8)
              have HW8 := Lib.hid (HW7.out.non hc8)
              have Hwin8 := Lib.hid (Hwin7.out.non hc8)
              have HO8 := Lib.hid hO8
              clear hkn hO8 hc8 HC7 HW7 Hwin7
              go_wp2_with fail
              refine hso.mono ?_
              rintro e w9 ⟨v9, m9, rfl, hm9, hO9, hc9⟩
              obtain ⟨A9, c9, rfl, _, _, hr9, _⟩ := hO9.open_
              subst hm8
              subst hm9
              have hsm := sameIDs_same w9 A8 K2.length c8 A9 c9 K2 (HO8.out.non hc9).rds hr9 (by omega)
              have HC9 := Lib.hid (HC8.out.non hc9)
              have HW9 := Lib.hid (HW8.out.non hc9)
              have Hwin9 := Lib.hid (Hwin8.out.non hc9)
              clear hso hO9 hc9 hr9 HC8 HW8 Hwin8 HO8
              go_wp2_with fail
              refine hsm.mono ?_
              rintro e w10 ⟨rfl, hc10⟩
              have hrel : RelA wo n g mw size (.slice B7 s.R.length (c7' - 1)) (.int .i64 ((t + 1 : Nat) : Int)) w10 := ⟨t + 1, q + 1, s2, G6, f2, D2, by omega, rfl, by rw [HR2.out, hRl]; exact Hwin9.out.non hc10, HF3.out, HW9.out.non hc10, Hf3.out, by omega, HG6.out, Hv7.out, HC9.out.non hc10⟩
              have Hrel := Lib.hid hrel
              clear hrel hsm hc10 HC9 HW9 Hwin9
              go_wp2_with fail
              go_roundw
              case rel => exact Hrel.out
              case measure => simp [intOf]; omega
    · obtain rfl : t = n := by omega
      have hwa := cwWanted wr G g mw 0 q s f D hW (by omega)
      clear hwin hF hW hf hG hvG
      go_wp2_with fail
      refine hwa.mono ?_
      rintro e w3 ⟨A3, c3, rfl, hc3⟩
      go_wp2_with fail
      go_ret
      exact ⟨rfl, hC.non hc3⟩

set_option maxRecDepth 100000 in
set_option maxHeartbeats 4000000 in
theorem cacheAges_walk (w : World) (size : Int) (hz : i64 size) (A : Option Addr) (n c : Nat) (e1 : Rd Try.prog w 22 (Value.slice A n c).cells.toList) :
    Calls Try.prog 3 #[.int .i64 size, .slice A n c] w fun e w2 => e = .returned (.bool true) ∧ Chg Non w w2 := by
  obtain ⟨A', n', c', l, g1, g2, g3, g4, g5⟩ := e1.ints Try.underlying22 (by kernel_rfl) Try.underlying3
  simp only [Value.cells, List.cons.injEq, and_true, Value.slice.injEq] at g1
  obtain ⟨rfl, rfl, rfl⟩ := g1
  by_cases hn : 1 ≤ size ∧ size ≤ 10 ∧ n ≤ 100
  · obtain ⟨h1, h2, h3⟩ := hn
    obtain ⟨S, rfl⟩ : ∃ S : Nat, size = S := ⟨size.toNat, by omega⟩
    exact cacheAges_core w S (by omega) (by omega) A n c l g4 g5 h3
  · clear g4 e1 g5
    unfold maxLen at g3
    have hcase : size < 1 ∨ (1 ≤ size ∧ 10 < size) ∨ (1 ≤ size ∧ size ≤ 10 ∧ 100 < n) := by omega
    clear hn hz
    rcases hcase with k1 | ⟨k1, k2⟩ | ⟨k1, k2, k3⟩
    all_goals
      go_enter Try.func3, Try.ntmps3
      go_wp2_with fail
      refine (cache_alive _).mono ?_
      rintro e w1 ⟨rfl, hc1⟩
      go_wp2_with fail
      go_ret
      exact ⟨rfl, hc1⟩
end Go.Proofs.Ytogmnhneobdklaa
