/-
  gleanerlaw21.world: turn in all ways; the world as it is built.
-/
import Derived.Test.YtflaliomkfbagaaOnceWd
namespace Go.Proofs.Ytflaliomkfbagaa
open Go.RowKit
set_option linter.unusedVariables false
set_option linter.unusedSimpArgs false

def TurnPost (w : World) (base : Nat) (col : Nat → Nat) (h : Hp) (s : OSt) (T N B : Nat) (e : Ending) (w2 : World) : Prop :=
  e = .returned (.tuple #[]) ∧ ∃ col2 h2 s2, Wd w2 base col2 h2 s2 T ∧ OInv T N s2 ∧ s2.L.length ≤ s.L.length + 1 ∧ Bd h2 (B + 1) ∧ h2.q = h.q ∧ h2.lm = h.lm ∧ Chg (fun b => col b ≠ 0) w w2 ∧ ∀ b, b < w.heap.size → col2 b ≠ 0 → col b ≠ 0
theorem Wd.fresh {w : World} {base : Nat} {col : Nat → Nat} {h : Hp} {s : OSt} {T : Nat} (k : Wd w base col h s T) {b : Nat} (hb : w.heap.size ≤ b) : col b = 0 := by
  rcases Nat.eq_zero_or_pos (col b) with e | e
  · exact e
  · have := (k.lt b (by omega)).2; omega
theorem Wd.base_le {w : World} {base : Nat} {col : Nat → Nat} {h : Hp} {s : OSt} {T : Nat} (k : Wd w base col h s T) : base ≤ w.heap.size := by
  have := k.lt h.q (by rw [k.cq]; decide)
  omega
theorem rem_nat (a n : Nat) : Int.tmod (a : Int) (n : Int) = ((a % n : Nat) : Int) := by
  rw [Int.tmod_eq_emod_of_nonneg (by omega)]
  omega

set_option maxRecDepth 100000 in
set_option maxHeartbeats 8000000 in
theorem turn_none (w : World) (base : Nat) (col : Nat → Nat) (h : Hp) (s : OSt) (T N B : Nat) (k : Wd w base col h s T) (hi : OInv T N s) (hT : T ≤ 16) (hT1 : 1 ≤ T) (hN : N ≤ 10) (hN1 : 1 ≤ N) (hL : s.L.length < 1000) (hB : Bd h B) (hB1 : B ≤ 100000) (hway : s.way.length ≤ 1000) (way K To : Int) (h0 : (way == 0) = false) (h4 : (way == 4) = false) (hz : s.way.length = 0) :
    Calls Try.prog 12 #[.pointer (some ⟨h.q, 0, none⟩), .agg #[.int .i64 way, .int .i64 K, .int .i64 To], .map (some h.lm)] w (TurnPost w base col h s T N B) := by
  obtain ⟨y, hy, hyk⟩ := and1023 K
  obtain ⟨w1, hw1⟩ : ∃ w1, w.alloc (.cells #[.int .i64 way, .int .i64 K, .int .i64 To] 41) = w1 := ⟨_, rfl⟩
  have hc1 : Chg Non w w1 := hw1 ▸ (Chg.refl _ _).alloc _
  have hbT : Blk w1 w.heap.size 41 #[.int .i64 way, .int .i64 K, .int .i64 To] := hw1 ▸ Blk.new _ _ _
  have k1 := k.non hc1
  have hz1 := hc1.size
  have b0 : w1.cell? ⟨w.heap.size, 0, none⟩ = some (.int .i64 way) := hbT.cell 0
  have b1 : w1.cell? ⟨w.heap.size, 1, none⟩ = some (.int .i64 K) := hbT.cell 1
  have b2 : w1.cell? ⟨w.heap.size, 2, none⟩ = some (.int .i64 To) := hbT.cell 2
  have bl := hbT.lt
  have q0 : w1.cell? ⟨h.q, 0, none⟩ = some (.pointer (some ⟨h.g, 0, none⟩)) := k1.hb.cell 0
  have q1 : w1.cell? ⟨h.q, 1, none⟩ = some (.slice h.At h.tp.length h.ct) := k1.hb.cell 1
  have q2 : w1.cell? ⟨h.q, 2, none⟩ = some (.slice h.Aw s.way.length h.cw) := k1.hb.cell 2
  have q3 : w1.cell? ⟨h.q, 3, none⟩ = some (.slice h.Ao s.way.length h.co) := k1.hb.cell 3
  have q4 : w1.cell? ⟨h.q, 4, none⟩ = some (.slice h.An T h.cn) := k1.hb.cell 4
  have ql := k1.hb.lt
  have Hk1 := Lib.hid k1
  rw [hz] at q2
  clear k1 hbT
  go_enter Try.func12, Try.ntmps12
  go_wp2_with fail
  go_end0
  exact ⟨rfl, col, h, s, Hk1.out, hi, by omega, hB.mono (by omega), rfl, rfl, hc1.of_non, fun _ _ e => e⟩

set_option maxRecDepth 100000 in
set_option maxHeartbeats 8000000 in
theorem turn_lost (w : World) (base : Nat) (col : Nat → Nat) (h : Hp) (s : OSt) (T N B : Nat) (k : Wd w base col h s T) (hi : OInv T N s) (hT : T ≤ 16) (hT1 : 1 ≤ T) (hN : N ≤ 10) (hN1 : 1 ≤ N) (hL : s.L.length < 1000) (hB : Bd h B) (hB1 : B ≤ 100000) (hway : s.way.length ≤ 1000) (way K To : Int) (hz : 0 < s.way.length) :
    Calls Try.prog 12 #[.pointer (some ⟨h.q, 0, none⟩), .agg #[.int .i64 2, .int .i64 K, .int .i64 To], .map (some h.lm)] w (TurnPost w base col h s T N B) := by
  obtain ⟨y, hy, hyk⟩ := and1023 K
  obtain ⟨w1, hw1⟩ : ∃ w1, w.alloc (.cells #[.int .i64 2, .int .i64 K, .int .i64 To] 41) = w1 := ⟨_, rfl⟩
  have hc1 : Chg Non w w1 := hw1 ▸ (Chg.refl _ _).alloc _
  have hbT : Blk w1 w.heap.size 41 #[.int .i64 2, .int .i64 K, .int .i64 To] := hw1 ▸ Blk.new _ _ _
  have k1 := k.non hc1
  have hz1 := hc1.size
  have b0 : w1.cell? ⟨w.heap.size, 0, none⟩ = some (.int .i64 2) := hbT.cell 0
  have b1 : w1.cell? ⟨w.heap.size, 1, none⟩ = some (.int .i64 K) := hbT.cell 1
  have b2 : w1.cell? ⟨w.heap.size, 2, none⟩ = some (.int .i64 To) := hbT.cell 2
  have bl := hbT.lt
  have q0 : w1.cell? ⟨h.q, 0, none⟩ = some (.pointer (some ⟨h.g, 0, none⟩)) := k1.hb.cell 0
  have q1 : w1.cell? ⟨h.q, 1, none⟩ = some (.slice h.At h.tp.length h.ct) := k1.hb.cell 1
  have q2 : w1.cell? ⟨h.q, 2, none⟩ = some (.slice h.Aw s.way.length h.cw) := k1.hb.cell 2
  have q3 : w1.cell? ⟨h.q, 3, none⟩ = some (.slice h.Ao s.way.length h.co) := k1.hb.cell 3
  have q4 : w1.cell? ⟨h.q, 4, none⟩ = some (.slice h.An T h.cn) := k1.hb.cell 4
  have ql := k1.hb.lt
  obtain ⟨r, hr, hrn⟩ : ∃ r : Nat, r < s.way.length ∧ (y : Int) % (s.way.length : Int) = (r : Int) := ⟨y % s.way.length, Nat.mod_lt _ hz, by omega⟩
  obtain ⟨z, hz2⟩ : ∃ z, s.way[r]? = some z := ⟨_, List.getElem?_eq_getElem hr⟩
  have hx : (s.way.map Wy.to)[r]? = some z.to := by rw [List.getElem?_map, hz2]; rfl
  have hne2 : ((s.way.length : Int) == 0) = false := by rw [beq_eq_false_iff_ne]; omega
  have hnil : ¬ s.way = [] := fun e => by rw [e] at hz; exact absurd hz (by decide)
  have hrt : Int.tmod (y : Int) (s.way.length : Int) = (r : Int) := by rw [rem_nat, ← hrn]; omega
  have hdr := drop_any w1 base h.q _ _ _ _ _ _ _ _ _ s.way (s.way.map Wy.to) r z z.to hz2 hx k1.hb k1.ow k1.oo (by omega) (by omega) hr hr
  have Hk1 := Lib.hid k1
  clear k1 hbT hz2 hx
  go_enter Try.func12, Try.ntmps12
  go_wp2_with fail
  refine hdr.mono ?_
  clear hdr hw1
  rintro e w2 hp
  obtain ⟨rfl, col2, Aw, cw, Ao, co, k2, hc2, hcol⟩ := Hk1.out.dropped hr Hk1.out.base_le hp
  go_wp2_with fail
  go_end0
  refine ⟨rfl, col2, _, _, k2, hi.sub _ (fun v hv => ?_), by show s.L.length ≤ _; omega, ⟨by have := hB.ns; show h.ns ≤ _; omega, by have := hB.no; show h.no ≤ _; omega, by have := hB.ln; show h.ln ≤ _; omega, fun j p e => by have := hB.tp j p e; omega⟩, rfl, rfl, hc1.of_non.trans2 hc2 (fun b e => .inl e), fun b hb e => hcol b (by omega) e⟩
  rcases List.mem_append.1 hv with hv | hv
  · exact List.mem_of_mem_take hv
  · exact List.mem_of_mem_drop hv

set_option maxRecDepth 100000 in
set_option maxHeartbeats 8000000 in
theorem turn_double (w : World) (base : Nat) (col : Nat → Nat) (h : Hp) (s : OSt) (T N B : Nat) (k : Wd w base col h s T) (hi : OInv T N s) (hT : T ≤ 16) (hT1 : 1 ≤ T) (hN : N ≤ 10) (hN1 : 1 ≤ N) (hL : s.L.length < 1000) (hB : Bd h B) (hB1 : B ≤ 100000) (hway : s.way.length ≤ 1000) (way K To : Int) (h0 : (way == 0) = false) (h4 : (way == 4) = false) (h1 : (way == 1) = false) (h2 : (way == 2) = false) (hz : 0 < s.way.length) :
    Calls Try.prog 12 #[.pointer (some ⟨h.q, 0, none⟩), .agg #[.int .i64 way, .int .i64 K, .int .i64 To], .map (some h.lm)] w (TurnPost w base col h s T N B) := by
  obtain ⟨y, hy, hyk⟩ := and1023 K
  obtain ⟨w1, hw1⟩ : ∃ w1, w.alloc (.cells #[.int .i64 way, .int .i64 K, .int .i64 To] 41) = w1 := ⟨_, rfl⟩
  have hc1 : Chg Non w w1 := hw1 ▸ (Chg.refl _ _).alloc _
  have hbT : Blk w1 w.heap.size 41 #[.int .i64 way, .int .i64 K, .int .i64 To] := hw1 ▸ Blk.new _ _ _
  have k1 := k.non hc1
  have hz1 := hc1.size
  have b0 : w1.cell? ⟨w.heap.size, 0, none⟩ = some (.int .i64 way) := hbT.cell 0
  have b1 : w1.cell? ⟨w.heap.size, 1, none⟩ = some (.int .i64 K) := hbT.cell 1
  have b2 : w1.cell? ⟨w.heap.size, 2, none⟩ = some (.int .i64 To) := hbT.cell 2
  have bl := hbT.lt
  have q0 : w1.cell? ⟨h.q, 0, none⟩ = some (.pointer (some ⟨h.g, 0, none⟩)) := k1.hb.cell 0
  have q1 : w1.cell? ⟨h.q, 1, none⟩ = some (.slice h.At h.tp.length h.ct) := k1.hb.cell 1
  have q2 : w1.cell? ⟨h.q, 2, none⟩ = some (.slice h.Aw s.way.length h.cw) := k1.hb.cell 2
  have q3 : w1.cell? ⟨h.q, 3, none⟩ = some (.slice h.Ao s.way.length h.co) := k1.hb.cell 3
  have q4 : w1.cell? ⟨h.q, 4, none⟩ = some (.slice h.An T h.cn) := k1.hb.cell 4
  have ql := k1.hb.lt
  obtain ⟨r, hr, hrn⟩ : ∃ r : Nat, r < s.way.length ∧ (y : Int) % (s.way.length : Int) = (r : Int) := ⟨y % s.way.length, Nat.mod_lt _ hz, by omega⟩
  obtain ⟨z, hz2⟩ : ∃ z, s.way[r]? = some z := ⟨_, List.getElem?_eq_getElem hr⟩
  have hx : (s.way.map Wy.to)[r]? = some z.to := by rw [List.getElem?_map, hz2]; rfl
  have hne2 : ((s.way.length : Int) == 0) = false := by rw [beq_eq_false_iff_ne]; omega
  have hnil : ¬ s.way = [] := fun e => by rw [e] at hz; exact absurd hz (by decide)
  have hrt : Int.tmod (y : Int) (s.way.length : Int) = (r : Int) := by rw [rem_nat, ← hrn]; omega
  obtain ⟨ad, z', hAw, hz3, c0, c1⟩ := k1.ow.rds.getN wyC_len (by decide) hr
  obtain rfl : z = z' := by rw [hz2] at hz3; exact Option.some.inj hz3
  obtain ⟨ad2, x', hAo, hx3, cx⟩ := k1.oo.rds.getI hr
  obtain rfl : z.to = x' := by rw [hx] at hx3; exact Option.some.inj hx3
  have z0 : ∀ wx, Chg Non w1 wx → wx.cell? (ad.add (r * 11)) = some (.int .i64 z.kd) := fun wx hx => hx.cell (c0 _ rfl) id
  have z1 : ∀ wx, Chg Non w1 wx → wx.cell? ⟨(ad.add (r * 11)).block, (ad.add (r * 11)).off + 1, none⟩ = some (.int .i64 z.node) := fun wx hx => hx.cell (c1 0 _ rfl) id
  have z2 : ∀ wx, Chg Non w1 wx → wx.cell? ⟨(ad.add (r * 11)).block, (ad.add (r * 11)).off + 2, none⟩ = some (.int .i64 z.life) := fun wx hx => hx.cell (c1 1 _ rfl) id
  have z3 : ∀ wx, Chg Non w1 wx → wx.cell? ⟨(ad.add (r * 11)).block, (ad.add (r * 11)).off + 3, none⟩ = some (.int .i64 z.epoch) := fun wx hx => hx.cell (c1 2 _ rfl) id
  have z4 : ∀ wx, Chg Non w1 wx → wx.cell? ⟨(ad.add (r * 11)).block, (ad.add (r * 11)).off + 4, none⟩ = some (.string z.id) := fun wx hx => hx.cell (c1 3 _ rfl) id
  have z5 : ∀ wx, Chg Non w1 wx → wx.cell? ⟨(ad.add (r * 11)).block, (ad.add (r * 11)).off + 5, none⟩ = some (.int .i64 0) := fun wx hx => hx.cell (c1 4 _ rfl) id
  have z6 : ∀ wx, Chg Non w1 wx → wx.cell? ⟨(ad.add (r * 11)).block, (ad.add (r * 11)).off + 6, none⟩ = some (.slice none 0 0) := fun wx hx => hx.cell (c1 5 _ rfl) id
  have z7 : ∀ wx, Chg Non w1 wx → wx.cell? ⟨(ad.add (r * 11)).block, (ad.add (r * 11)).off + 7, none⟩ = some (.int .i64 0) := fun wx hx => hx.cell (c1 6 _ rfl) id
  have z8 : ∀ wx, Chg Non w1 wx → wx.cell? ⟨(ad.add (r * 11)).block, (ad.add (r * 11)).off + 8, none⟩ = some (.int .i64 0) := fun wx hx => hx.cell (c1 7 _ rfl) id
  have z9 : ∀ wx, Chg Non w1 wx → wx.cell? ⟨(ad.add (r * 11)).block, (ad.add (r * 11)).off + 9, none⟩ = some (.int .i64 0) := fun wx hx => hx.cell (c1 8 _ rfl) id
  have z10 : ∀ wx, Chg Non w1 wx → wx.cell? ⟨(ad.add (r * 11)).block, (ad.add (r * 11)).off + 10, none⟩ = some (.slice none 0 0) := fun wx hx => hx.cell (c1 9 _ rfl) id
  have zx : ∀ wx, Chg Non w1 wx → wx.cell? (ad2.add r) = some (.int .i64 z.to) := fun wx hx => hx.cell cx id
  have zl := World.block_lt_of_cell? w1 _ (c0 _ rfl)
  have xl := World.block_lt_of_cell? w1 _ cx
  have q2' : ∀ wx, Chg Non w1 wx → wx.cell? ⟨h.q, 2, none⟩ = some (.slice (some ad) s.way.length h.cw) := fun wx hx => hx.cell (hAw ▸ q2) id
  have q3' : ∀ wx, Chg Non w1 wx → wx.cell? ⟨h.q, 3, none⟩ = some (.slice (some ad2) s.way.length h.co) := fun wx hx => hx.cell (hAo ▸ q3) id
  have Hk1 := Lib.hid k1
  have Hz2 := Lib.hid hz2
  clear k1 hbT hz2 hx hz3 hx3 c0 c1 cx q0 q1 q4
  go_enter Try.func12, Try.ntmps12
  go_wp2_with fail
  refine st_region_tail 8 27 Non [] [] (fun _ _ _ _ => True) (fun _ _ _ _ => True) (fun _ _ _ => True) (fun _ => True) (by kernel_rfl) (by kernel_rfl) (by kernel_rfl) (fun _ h => h.elim) trivial (fun _ _ _ => trivial) ?_
  repeat (first | (refine st_pass (by rfl) ?_; simp only [Act.put, List.setIfInBounds_toArray, List.set_cons_succ, List.set_cons_zero]) | (refine st_plain (Non) (w1) rfl rfl (f := ?_) (by rfl) rfl rfl (fun w hC hG => ?_) ?_; rotate_left; (clear hG; first | (go_simp; done) | (go_simp; with_reducible rfl) | (simp [*, go_sem, ↓IntWalk.iteOmega]; done) | (simp [*, go_sem, ↓IntWalk.iteOmega]; with_reducible rfl)); simp only [Act.put, List.setIfInBounds_toArray, List.set_cons_succ, List.set_cons_zero]))
  refine st_tail (Non) w1 rfl rfl rfl (fun w7 hC7 _ _ => ?_)
  simp only [List.drop_succ_cons, List.drop_zero]
  have k7 := Hk1.out.non hC7
  have hsd := send_any w7 base h.q _ _ _ _ _ _ _ _ _ s.way (s.way.map Wy.to) z k7.hb k7.ow k7.oo k7.base_le (by omega) (by omega)
  have Hk7 := Lib.hid k7
  have hc7 := hc1.non hC7
  clear k7 z0 z1 z2 z3 z4 z5 z6 z7 z8 z9 z10 zx q2' q3' hw1 zl xl ql b0 b1 b2 bl q2 q3 hC7 hc1
  go_wp2_with fail
  refine hsd.mono ?_
  clear hsd
  rintro e w2 hp
  obtain ⟨rfl, col2, Aw, cw, Ao, co, k2, hc2, hcol⟩ := Hk7.out.sent hp
  go_wp2_with fail
  go_end0
  have hz7 := hc7.size
  exact ⟨rfl, col2, _, _, k2, hi.add (hi.way z (List.mem_of_getElem? Hz2.out)), by show s.L.length ≤ _; omega, ⟨by have := hB.ns; show h.ns ≤ _; omega, by have := hB.no; show h.no ≤ _; omega, by have := hB.ln; show h.ln ≤ _; omega, fun j p e => by have := hB.tp j p e; omega⟩, rfl, rfl, hc7.of_non.trans2 hc2 (fun b e => .inl e), fun b hb e => hcol b (by omega) e⟩

set_option maxRecDepth 100000 in
set_option maxHeartbeats 16000000 in
theorem turn_offer0 (w : World) (base : Nat) (col : Nat → Nat) (h : Hp) (s : OSt) (T N B : Nat) (k : Wd w base col h s T) (hi : OInv T N s) (hT : T ≤ 16) (hT1 : 1 ≤ T) (hN : N ≤ 10) (hN1 : 1 ≤ N) (hL : s.L.length < 1000) (hB : Bd h B) (hB1 : B ≤ 100000) (hway : s.way.length ≤ 1000) (way K To : Int) (hns : h.ns = 0) :
    Calls Try.prog 12 #[.pointer (some ⟨h.q, 0, none⟩), .agg #[.int .i64 0, .int .i64 K, .int .i64 To], .map (some h.lm)] w (TurnPost w base col h s T N B) := by
  obtain ⟨y, hy, hyk⟩ := and1023 K
  obtain ⟨w1, hw1⟩ : ∃ w1, w.alloc (.cells #[.int .i64 0, .int .i64 K, .int .i64 To] 41) = w1 := ⟨_, rfl⟩
  have hc1 : Chg Non w w1 := hw1 ▸ (Chg.refl _ _).alloc _
  have hbT : Blk w1 w.heap.size 41 #[.int .i64 0, .int .i64 K, .int .i64 To] := hw1 ▸ Blk.new _ _ _
  have k1 := k.non hc1
  have hz1 := hc1.size
  have b0 : w1.cell? ⟨w.heap.size, 0, none⟩ = some (.int .i64 0) := hbT.cell 0
  have b1 : w1.cell? ⟨w.heap.size, 1, none⟩ = some (.int .i64 K) := hbT.cell 1
  have b2 : w1.cell? ⟨w.heap.size, 2, none⟩ = some (.int .i64 To) := hbT.cell 2
  have bl := hbT.lt
  have q0 : w1.cell? ⟨h.q, 0, none⟩ = some (.pointer (some ⟨h.g, 0, none⟩)) := k1.hb.cell 0
  have q1 : w1.cell? ⟨h.q, 1, none⟩ = some (.slice h.At h.tp.length h.ct) := k1.hb.cell 1
  have q2 : w1.cell? ⟨h.q, 2, none⟩ = some (.slice h.Aw s.way.length h.cw) := k1.hb.cell 2
  have q3 : w1.cell? ⟨h.q, 3, none⟩ = some (.slice h.Ao s.way.length h.co) := k1.hb.cell 3
  have q4 : w1.cell? ⟨h.q, 4, none⟩ = some (.slice h.An T h.cn) := k1.hb.cell 4
  have ql := k1.hb.lt
  have g0 : w1.cell? ⟨h.g, 0, none⟩ = some (.map (some h.sm)) := k1.hg.hb.cell 0
  have gl := k1.hg.hb.lt
  have hHs := setHas_any w1 h.sm h.ns s.g.has k1.hg.hs (by omega)
  rw [hns] at hHs
  have Hk1 := Lib.hid k1
  clear k1 hbT
  go_enter Try.func12, Try.ntmps12
  go_wp2_with fail
  refine hHs.mono ?_
  clear hHs
  rintro e w2 ⟨A, c, L, rfl, q1, q2, q3, q4, hc2⟩
  clear q1 q2 q3 q4 hw1
  have k2 := Hk1.out.non hc2
  have hc2' := hc1.non hc2
  go_wp2_with fail
  go_end0
  exact ⟨rfl, col, h, s, k2, hi, by omega, hB.mono (by omega), rfl, rfl, hc2'.of_non, fun _ _ e => e⟩

set_option maxRecDepth 100000 in
set_option maxHeartbeats 16000000 in
theorem turn_offer (w : World) (base : Nat) (col : Nat → Nat) (h : Hp) (s : OSt) (T N B : Nat) (k : Wd w base col h s T) (hi : OInv T N s) (hT : T ≤ 16) (hT1 : 1 ≤ T) (hN : N ≤ 10) (hN1 : 1 ≤ N) (hL : s.L.length < 1000) (hB : Bd h B) (hB1 : B ≤ 100000) (hway : s.way.length ≤ 1000) (way K To : Int) (hns : 0 < h.ns) :
    Calls Try.prog 12 #[.pointer (some ⟨h.q, 0, none⟩), .agg #[.int .i64 0, .int .i64 K, .int .i64 To], .map (some h.lm)] w (TurnPost w base col h s T N B) := by
  obtain ⟨y, hy, hyk⟩ := and1023 K
  obtain ⟨w1, hw1⟩ : ∃ w1, w.alloc (.cells #[.int .i64 0, .int .i64 K, .int .i64 To] 41) = w1 := ⟨_, rfl⟩
  have hc1 : Chg Non w w1 := hw1 ▸ (Chg.refl _ _).alloc _
  have hbT : Blk w1 w.heap.size 41 #[.int .i64 0, .int .i64 K, .int .i64 To] := hw1 ▸ Blk.new _ _ _
  have k1 := k.non hc1
  have hz1 := hc1.size
  have b0 : w1.cell? ⟨w.heap.size, 0, none⟩ = some (.int .i64 0) := hbT.cell 0
  have b1 : w1.cell? ⟨w.heap.size, 1, none⟩ = some (.int .i64 K) := hbT.cell 1
  have b2 : w1.cell? ⟨w.heap.size, 2, none⟩ = some (.int .i64 To) := hbT.cell 2
  have bl := hbT.lt
  have q0 : w1.cell? ⟨h.q, 0, none⟩ = some (.pointer (some ⟨h.g, 0, none⟩)) := k1.hb.cell 0
  have q1 : w1.cell? ⟨h.q, 1, none⟩ = some (.slice h.At h.tp.length h.ct) := k1.hb.cell 1
  have q2 : w1.cell? ⟨h.q, 2, none⟩ = some (.slice h.Aw s.way.length h.cw) := k1.hb.cell 2
  have q3 : w1.cell? ⟨h.q, 3, none⟩ = some (.slice h.Ao s.way.length h.co) := k1.hb.cell 3
  have q4 : w1.cell? ⟨h.q, 4, none⟩ = some (.slice h.An T h.cn) := k1.hb.cell 4
  have ql := k1.hb.lt
  have g0 : w1.cell? ⟨h.g, 0, none⟩ = some (.map (some h.sm)) := k1.hg.hb.cell 0
  have gl := k1.hg.hb.lt
  have hHs := setHas_any w1 h.sm h.ns s.g.has k1.hg.hs (by have := hB.ns; omega)
  have Hk1 := Lib.hid k1
  clear k1 hbT q2 q3 q4
  go_enter Try.func12, Try.ntmps12
  go_wp2_with fail
  refine hHs.mono ?_
  clear hHs g0 gl
  rintro e w2 ⟨A, c, L, rfl, _, hm, hnl, hown, hc2⟩
  obtain ⟨r, hr, hrn⟩ : ∃ r : Nat, r < h.ns ∧ (y : Int) % (h.ns : Int) = (r : Int) := ⟨y % h.ns, Nat.mod_lt _ hns, by omega⟩
  have hrt : Int.tmod (y : Int) (h.ns : Int) = (r : Int) := by rw [rem_nat, ← hrn]; omega
  have hns0 : ¬ h.ns = 0 := by omega
  obtain ⟨ad, nm, rfl, hx, cx⟩ := hown.rds.getS hr
  have hhas : s.g.has nm = true := (hm nm).1 (List.mem_of_getElem? hx)
  obtain ⟨kk, hkk, hnm⟩ := hi.has nm hhas
  have hsz := id_small (id1_vid (show kk < 16 by omega))
  rw [← hnm] at hsz
  have xl := World.block_lt_of_cell? w2 _ cx
  have k2 := Hk1.out.non hc2
  have hc2' := hc1.non hc2
  have b2' : w2.cell? ⟨w.heap.size, 2, none⟩ = some (.int .i64 To) := hc2.cell b2 id
  have bl' : w.heap.size < w2.heap.size := by have := hc2.size; omega
  have q1' : w2.cell? ⟨h.q, 1, none⟩ = some (.slice h.At h.tp.length h.ct) := hc2.cell q1 id
  have ql' := k2.hb.lt
  have Hk2 := Lib.hid k2
  have Hhas := Lib.hid hhas
  have Hnm := Lib.hid hnm
  clear hm hnl hown hx hw1 k2 hc2 hc1 b0 b1 b2 bl q0 q1 ql hhas hnm hyk hz1
  go_wp2_with fail
  obtain ⟨y2, hy2, hyk2⟩ := and127 To
  have htl : h.tp.length = N := by rw [Hk2.out.tl, hi.tlen]
  obtain ⟨r2, hr2, hrn2⟩ : ∃ r2 : Nat, r2 < h.tp.length ∧ (y2 : Int) % (h.tp.length : Int) = (r2 : Int) := ⟨y2 % h.tp.length, Nat.mod_lt _ (by omega), by omega⟩
  have hrt2 : Int.tmod (y2 : Int) (h.tp.length : Int) = (r2 : Int) := by rw [rem_nat, ← hrn2]; omega
  have hnil : ¬ h.tp = [] := fun e => by rw [e] at hr2; exact absurd hr2 (by simp)
  have hwr : IntKind.i64.wrap (1 + (r2 : Int)) = (r2 : Int) + 1 := by rw [IntKind.wrap_i64] <;> omega
  have b2 : ∀ wx, Chg Non w2 wx → wx.cell? ⟨w.heap.size, 2, none⟩ = some (.int .i64 To) := fun wx hc => hc.cell b2' id
  have q1 : ∀ wx, Chg Non w2 wx → wx.cell? ⟨h.q, 1, none⟩ = some (.slice h.At h.tp.length h.ct) := fun wx hc => hc.cell q1' id
  have Htl := Lib.hid htl
  clear cx xl b2' q1' hrn hrt htl
  refine st_region _ Non [] [] (fun _ _ _ _ => True) (fun _ _ _ _ => True) (fun _ _ _ => True) (fun _ => True) (by kernel_rfl) (okB_of_F _ (by kernel_rfl)) (fun _ h => h.elim) trivial (fun _ _ _ => trivial) ?_
  repeat (first | (refine st_pass (by rfl) ?_; simp only [Act.put, List.setIfInBounds_toArray, List.set_cons_succ, List.set_cons_zero]) | (refine st_plain (Non) (w2) rfl rfl (f := ?_) (by rfl) rfl rfl (fun w hC hG => ?_) ?_; rotate_left; (clear hG; first | (go_simp; done) | (go_simp; with_reducible rfl) | (simp [*, go_sem, ↓IntWalk.iteOmega]; done) | (simp [*, go_sem, ↓IntWalk.iteOmega]; with_reducible rfl)); simp only [Act.put, List.setIfInBounds_toArray, List.set_cons_succ, List.set_cons_zero]))
  refine st_end Non w2 rfl rfl (fun w3 hC3 _ _ => ?_)
  have k3 := Hk2.out.non hC3
  have hc3 := hc2'.non hC3
  have q0 : w3.cell? ⟨h.q, 0, none⟩ = some (.pointer (some ⟨h.g, 0, none⟩)) := k3.hb.cell 0
  have ql3 := k3.hb.lt
  have hnum := hi.num
  have hnode := hi.node
  have hOf := gvOffer_yes w3 _ h.g h.sm h.om h.ns h.no s.g k3.hg nm hsz ((r2 : Int) + 1) 1 Hhas.out (by rw [hnode, beq_eq_false_iff_ne]; omega) (by omega) (by have := Htl.out; omega) (by omega) (by omega) (by omega) (by have := hB.no; omega)
  rw [show offV ⟨(r2 : Int) + 1, 1, s.g.num + 1⟩ nm = .agg #[.int .i64 4, .int .i64 0, .int .i64 ((s.L.length : Int) + 1), .int .i64 1, .string nm, .int .i64 0, .slice none 0 0, .int .i64 0, .int .i64 0, .int .i64 0, .slice none 0 0] from by rw [hnum]; rfl] at hOf
  have Hk3 := Lib.hid k3
  clear k3 b2 q1 bl' ql' hC3 hc2' hyk2 hrn2 hrt2 hwr hnum hnode
  go_wp2_with fail
  refine hOf.mono ?_
  clear hOf q0 ql3
  rintro e w4 ⟨rfl, ns4, no4, hns4, hno4, hG4, hc4⟩
  have k4 := Hk3.out.give hc4 hG4
  have hC4 : Chg (fun b => col b ≠ 0) w w4 := hc3.of_non.trans2 hc4 (fun b e => .inl (by have e : col b = 1 := e; show col b ≠ 0; rw [e]; decide))
  have Hk4 := Lib.hid k4
  clear k4 hG4 hc4
  go_wp2_with fail
  refine (num_any _ _).mono ?_
  rintro e w5 ⟨rfl, hw5⟩
  have hc5 : Chg Non w4 w5 := hw5 ▸ (Chg.refl _ _).alloc _
  have hbN : Blk w5 w4.heap.size 59 #[.int .i64 4, .int .i64 0, .int .i64 ((s.L.length : Int) + 1), .int .i64 1, .string nm, .int .i64 0, .slice none 0 0, .int .i64 0, .int .i64 0, .int .i64 0, .slice none 0 0] := hw5 ▸ Blk.new _ _ _
  have k5 := Hk4.out.non hc5
  have hlm : w4.heap.size ≠ h.lm := fun e => by
    have := (Hk4.out.lt h.lm (by rw [Hk4.out.cm]; decide)).2
    omega
  have hm5 : Mp nmKey w5 h.lm h.ln (lastV s.last) := k5.hm
  have Hk5 := Lib.hid k5
  clear k5 hw5
  go_wp2_with (at_mapUpdate; refine wp_store_Mp (K := nmKey) rfl (.tmp 95) (.tmp 96) (.tmp 97) 38 rfl hm5 Try.underlying38 (by have := hB.ln; unfold maxLen; omega) rfl (b := nm) hsz rfl (u := .int .i64 ((r2 : Int) + 1)) rfl ?_; intro w6 hm6 hc6; have hbN6 := hbN.chg hc6 hlm; have z0 := hbN6.cell 0; have z1 := hbN6.cell 1; have z2 := hbN6.cell 2; have z3 := hbN6.cell 3; have z4 := hbN6.cell 4; have z5 := hbN6.cell 5; have z6 := hbN6.cell 6; have z7 := hbN6.cell 7; have z8 := hbN6.cell 8; have z9 := hbN6.cell 9; have z10 := hbN6.cell 10; simp only [List.getElem?_toArray, List.getElem?_cons_zero, List.getElem?_cons_succ] at z0 z1 z2 z3 z4 z5 z6 z7 z8 z9 z10; have zl := hbN6.lt)
  have hm6' : Mp nmKey w6 h.lm (if (lastV s.last nm).isSome then h.ln else h.ln + 1) (lastV fun a => if a = id1 kk then some ((r2 : Int) + 1) else s.last a) := hm6.congr fun a => by
    unfold lastV
    rw [← Hnm.out]
    dsimp only
    by_cases e : a = nm
    · rw [if_pos e, if_pos e]; rfl
    · rw [if_neg e, if_neg e]
  have k6 := Hk5.out.lasts hc6 hm6'
  have hC6 : Chg (fun b => col b ≠ 0) w w6 := (hC4.trans2 hc5 (fun b e => e.elim)).trans2 hc6 (fun b e => .inl (by have e : b = h.lm := e; show col b ≠ 0; rw [e, Hk5.out.cm]; decide))
  have hsd := send_any w6 base h.q _ _ _ _ _ _ _ _ _ s.way (s.way.map Wy.to) ⟨4, 0, (s.L.length : Int) + 1, 1, nm, (r2 : Int) + 1⟩ k6.hb k6.ow k6.oo k6.base_le (by show s.way.length ≤ _; omega) (by show s.way.length ≤ _; omega)
  dsimp only at hsd
  have Hk6 := Lib.hid k6
  have hln : (if (lastV s.last nm).isSome then h.ln else h.ln + 1) ≤ h.ln + 1 := by split <;> omega
  have hz6 := hC6.size
  clear k6 hm6 hm6' hbN hbN6 hm5 hc5 hc6 hlm hC4 z0 z1 z2 z3 z4 z5 z6 z7 z8 z9 z10 zl
  refine hsd.mono ?_
  clear hsd
  rintro e w7 hp
  obtain ⟨rfl, col2, Aw, cw, Ao, co, k7, hc7, hcol⟩ := Hk6.out.sent hp
  have hI := hi.offer hT hL hkk (j := r2) (by have := Htl.out; omega) (by rw [← Hnm.out]; exact Hhas.out)
  rw [show offY s.L.length kk r2 = ⟨4, 0, (s.L.length : Int) + 1, 1, nm, (r2 : Int) + 1⟩ from by unfold offY; rw [Hnm.out]] at hI
  have HI := Lib.hid hI
  clear hI hp
  go_wp2_with fail
  go_end0
  refine ⟨rfl, col2, _, { g := offerS s.g nm ⟨(r2 : Int) + 1, 1, s.g.num + 1⟩, t := s.t, way := s.way ++ [⟨4, 0, (s.L.length : Int) + 1, 1, nm, (r2 : Int) + 1⟩], last := fun a => if a = id1 kk then some ((r2 : Int) + 1) else s.last a, L := s.L ++ [(kk, r2)] }, ⟨k7.hb, k7.hg, k7.ht, k7.tl, k7.ow, k7.oo, k7.ot, k7.on, k7.hm, k7.cq, k7.cw, k7.co, k7.cn, k7.ct, k7.cm, k7.lt⟩, by rw [Hnm.out]; exact Hnm.out ▸ HI.out, by simp, ⟨by have := hB.ns; show ns4 ≤ _; omega, by have := hB.no; show no4 ≤ _; omega, by have := hB.ln; show (if (lastV s.last nm).isSome then h.ln else h.ln + 1) ≤ _; omega, fun j p e => by have := hB.tp j p e; omega⟩, rfl, rfl, hC6.trans2 hc7 (fun b e => .inl e), fun b hb e => hcol b (by omega) e⟩

set_option maxRecDepth 100000 in
set_option maxHeartbeats 16000000 in
theorem turn_again (w : World) (base : Nat) (col : Nat → Nat) (h : Hp) (s : OSt) (T N B : Nat) (k : Wd w base col h s T) (hi : OInv T N s) (hT : T ≤ 16) (hT1 : 1 ≤ T) (hN : N ≤ 10) (hN1 : 1 ≤ N) (hL : s.L.length < 1000) (hB : Bd h B) (hB1 : B ≤ 100000) (hway : s.way.length ≤ 1000) (way K To : Int) :
    Calls Try.prog 12 #[.pointer (some ⟨h.q, 0, none⟩), .agg #[.int .i64 4, .int .i64 K, .int .i64 To], .map (some h.lm)] w (TurnPost w base col h s T N B) := by
  obtain ⟨y, hy, hyk⟩ := and1023 K
  obtain ⟨w1, hw1⟩ : ∃ w1, w.alloc (.cells #[.int .i64 4, .int .i64 K, .int .i64 To] 41) = w1 := ⟨_, rfl⟩
  have hc1 : Chg Non w w1 := hw1 ▸ (Chg.refl _ _).alloc _
  have hbT : Blk w1 w.heap.size 41 #[.int .i64 4, .int .i64 K, .int .i64 To] := hw1 ▸ Blk.new _ _ _
  have k1 := k.non hc1
  have hz1 := hc1.size
  have b0 : w1.cell? ⟨w.heap.size, 0, none⟩ = some (.int .i64 4) := hbT.cell 0
  have b1 : w1.cell? ⟨w.heap.size, 1, none⟩ = some (.int .i64 K) := hbT.cell 1
  have b2 : w1.cell? ⟨w.heap.size, 2, none⟩ = some (.int .i64 To) := hbT.cell 2
  have bl := hbT.lt
  have q0 : w1.cell? ⟨h.q, 0, none⟩ = some (.pointer (some ⟨h.g, 0, none⟩)) := k1.hb.cell 0
  have q1 : w1.cell? ⟨h.q, 1, none⟩ = some (.slice h.At h.tp.length h.ct) := k1.hb.cell 1
  have q2 : w1.cell? ⟨h.q, 2, none⟩ = some (.slice h.Aw s.way.length h.cw) := k1.hb.cell 2
  have q3 : w1.cell? ⟨h.q, 3, none⟩ = some (.slice h.Ao s.way.length h.co) := k1.hb.cell 3
  have q4 : w1.cell? ⟨h.q, 4, none⟩ = some (.slice h.An T h.cn) := k1.hb.cell 4
  have ql := k1.hb.lt
  obtain ⟨r, hr, hrn⟩ : ∃ r : Nat, r < T ∧ (y : Int) % (T : Int) = (r : Int) := ⟨y % T, Nat.mod_lt _ (by omega), by omega⟩
  have hrt : Int.tmod (y : Int) (T : Int) = (r : Int) := by rw [rem_nat, ← hrn]; omega
  have hT0 : ¬ T = 0 := by omega
  obtain ⟨nm, hnm⟩ : ∃ nm, id1 r = nm := ⟨_, rfl⟩
  have hsz := id_small (id1_vid (show r < 16 by omega))
  rw [hnm] at hsz
  obtain ⟨ad, x', hAn, hx, cx⟩ := k1.on.rds.getS hr
  obtain rfl : nm = x' := by
    have hx2 : ((List.range T).map id1)[r]? = some (id1 r) := by rw [List.getElem?_map, List.getElem?_range hr]; rfl
    rw [hx2] at hx; rw [← hnm]; exact Option.some.inj hx
  have zx : ∀ wx, Chg Non w1 wx → wx.cell? (ad.add r) = some (.string nm) := fun wx hx => hx.cell cx id
  have xl := World.block_lt_of_cell? w1 _ cx
  have q4' : ∀ wx, Chg Non w1 wx → wx.cell? ⟨h.q, 4, none⟩ = some (.slice (some ad) T h.cn) := fun wx hx => hx.cell (hAn ▸ q4) id
  have Hk1 := Lib.hid k1
  have Hnm := Lib.hid hnm
  clear k1 hbT hx cx q0 q1 q2 q3 hnm
  go_enter Try.func12, Try.ntmps12
  go_wp2_with fail
  clear hw1
  refine st_region _ Non [] [] (fun _ _ _ _ => True) (fun _ _ _ _ => True) (fun _ _ _ => True) (fun _ => True) (by kernel_rfl) (okB_of_F _ (by kernel_rfl)) (fun _ h => h.elim) trivial (fun _ _ _ => trivial) ?_
  repeat (first | (refine st_pass (by rfl) ?_; simp only [Act.put, List.setIfInBounds_toArray, List.set_cons_succ, List.set_cons_zero]) | (refine st_plain (Non) (w1) rfl rfl (f := ?_) (by rfl) rfl rfl (fun w hC hG => ?_) ?_; rotate_left; (clear hG; first | (go_simp; done) | (go_simp; with_reducible rfl) | (simp [*, go_sem, ↓IntWalk.iteOmega]; done) | (simp [*, go_sem, ↓IntWalk.iteOmega]; with_reducible rfl)); simp only [Act.put, List.setIfInBounds_toArray, List.set_cons_succ, List.set_cons_zero]))
  refine st_end Non w1 rfl rfl (fun w4 hC4 _ _ => ?_)
  have k4 := Hk1.out.non hC4
  have hc4 := hc1.non hC4
  have hz4 := hc4.size
  have q0 : w4.cell? ⟨h.q, 0, none⟩ = some (.pointer (some ⟨h.g, 0, none⟩)) := k4.hb.cell 0
  have ql4 := k4.hb.lt
  have hAg := gvAgain_any w4 _ h.g h.sm h.om h.ns h.no s.g k4.hg nm hsz
  have Hk4 := Lib.hid k4
  clear k4 zx xl q4' ql b0 b1 b2 bl q4 hC4 hc1 hz1
  cases ho : s.g.off nm with
  | none =>
    rw [show againV s.g nm = .tuple #[.agg #[.int .i64 0, .int .i64 0, .int .i64 0, .int .i64 0, .string ⟨#[]⟩, .int .i64 0, .slice none 0 0, .int .i64 0, .int .i64 0, .int .i64 0, .slice none 0 0], .bool false] from by unfold againV; rw [ho]; rfl] at hAg
    go_wp2_with fail
    refine hAg.mono ?_
    clear hAg q0 ql4
    rintro e w5 ⟨rfl, hc5⟩
    have k5 := Lib.hid (Hk4.out.non hc5)
    have hc5' := hc4.non hc5
    clear hc5
    go_wp2_with fail
    go_end0
    exact ⟨rfl, col, h, s, k5.out.non ((Chg.refl _ _).alloc _), hi, by omega, hB.mono (by omega), rfl, rfl, (hc5'.alloc _).of_non, fun _ _ e => e⟩
  | some o =>
    obtain ⟨m, j, hLm, ho2, hla, hI⟩ := hi.again hT hr (o := o) (by rw [Hnm.out]; exact ho)
    rw [Hnm.out] at hla
    rw [show againV s.g nm = .tuple #[.agg #[.int .i64 4, .int .i64 0, .int .i64 ((m : Int) + 1), .int .i64 1, .string nm, .int .i64 0, .slice none 0 0, .int .i64 0, .int .i64 0, .int .i64 0, .slice none 0 0], .bool true] from by unfold againV; rw [ho, ho2]; rfl] at hAg
    go_wp2_with fail
    refine hAg.mono ?_
    clear hAg q0 ql4
    rintro e w5 ⟨rfl, hc5⟩
    have k5 := Hk4.out.non hc5
    have hc5' := hc4.non hc5
    have qlk : ∀ ob, (Instr.lookup 38 (.map (some h.lm)) (.string nm) false).run Try.prog (w5.alloc ob) = .ok (.int .i64 ((j : Int) + 1)) (w5.alloc ob) := fun ob => by
      have q := (k5.hm.alloc ob).lookS Try.underlying38 (z := .int .i64 0) (by kernel_rfl) hsz rfl
      rw [show (lastV s.last nm).getD (.int .i64 0) = .int .i64 ((j : Int) + 1) from by unfold lastV; rw [hla]; rfl] at q
      exact q
    have Hk5 := Lib.hid k5
    clear k5 hc5 hla ho
    go_wp2_with fail
    obtain ⟨w6, hw6⟩ : ∃ w6, w5.alloc (.cells #[.int .i64 4, .int .i64 0, .int .i64 ((m : Int) + 1), .int .i64 1, .string nm, .int .i64 0, .slice none 0 0, .int .i64 0, .int .i64 0, .int .i64 0, .slice none 0 0] 59) = w6 := ⟨_, rfl⟩
    rw [hw6]
    have hc6 : Chg Non w5 w6 := hw6 ▸ (Chg.refl _ _).alloc _
    have k6 := Hk5.out.non hc6
    have hc6' := hc5'.non hc6
    have hz6 := hc6'.size
    have hsd := send_any w6 base h.q _ _ _ _ _ _ _ _ _ s.way (s.way.map Wy.to) ⟨4, 0, (m : Int) + 1, 1, nm, (j : Int) + 1⟩ k6.hb k6.ow k6.oo k6.base_le (by omega) (by omega)
    dsimp only at hsd
    have Hk6 := Lib.hid k6
    clear k6 hw6 hc6 qlk
    refine hsd.mono ?_
    clear hsd
    rintro e w2 hp
    obtain ⟨rfl, col2, Aw, cw, Ao, co, k2, hc2, hcol⟩ := Hk6.out.sent hp
    go_wp2_with fail
    go_end0
    exact ⟨rfl, col2, _, _, k2, by rw [show offY m r j = ⟨4, 0, (m : Int) + 1, 1, nm, (j : Int) + 1⟩ from by unfold offY; rw [Hnm.out]] at hI; exact hI, by show s.L.length ≤ _; omega, ⟨by have := hB.ns; show h.ns ≤ _; omega, by have := hB.no; show h.no ≤ _; omega, by have := hB.ln; show h.ln ≤ _; omega, fun j p e => by have := hB.tp j p e; omega⟩, rfl, rfl, hc6'.of_non.trans2 hc2 (fun b e => .inl e), fun b hb e => hcol b (by omega) e⟩

set_option maxRecDepth 100000 in
set_option maxHeartbeats 16000000 in
theorem turn_in (w : World) (base : Nat) (col : Nat → Nat) (h : Hp) (s : OSt) (T N B : Nat) (k : Wd w base col h s T) (hi : OInv T N s) (hT : T ≤ 16) (hT1 : 1 ≤ T) (hN : N ≤ 10) (hN1 : 1 ≤ N) (hL : s.L.length < 1000) (hB : Bd h B) (hB1 : B ≤ 100000) (hway : s.way.length ≤ 1000) (way K To : Int) (hz : 0 < s.way.length) :
    Calls Try.prog 12 #[.pointer (some ⟨h.q, 0, none⟩), .agg #[.int .i64 1, .int .i64 K, .int .i64 To], .map (some h.lm)] w (TurnPost w base col h s T N B) := by
  obtain ⟨y, hy, hyk⟩ := and1023 K
  obtain ⟨w1, hw1⟩ : ∃ w1, w.alloc (.cells #[.int .i64 1, .int .i64 K, .int .i64 To] 41) = w1 := ⟨_, rfl⟩
  have hc1 : Chg Non w w1 := hw1 ▸ (Chg.refl _ _).alloc _
  have hbT : Blk w1 w.heap.size 41 #[.int .i64 1, .int .i64 K, .int .i64 To] := hw1 ▸ Blk.new _ _ _
  have k1 := k.non hc1
  have hz1 := hc1.size
  have b0 : w1.cell? ⟨w.heap.size, 0, none⟩ = some (.int .i64 1) := hbT.cell 0
  have b1 : w1.cell? ⟨w.heap.size, 1, none⟩ = some (.int .i64 K) := hbT.cell 1
  have b2 : w1.cell? ⟨w.heap.size, 2, none⟩ = some (.int .i64 To) := hbT.cell 2
  have bl := hbT.lt
  have q0 : w1.cell? ⟨h.q, 0, none⟩ = some (.pointer (some ⟨h.g, 0, none⟩)) := k1.hb.cell 0
  have q1 : w1.cell? ⟨h.q, 1, none⟩ = some (.slice h.At h.tp.length h.ct) := k1.hb.cell 1
  have q2 : w1.cell? ⟨h.q, 2, none⟩ = some (.slice h.Aw s.way.length h.cw) := k1.hb.cell 2
  have q3 : w1.cell? ⟨h.q, 3, none⟩ = some (.slice h.Ao s.way.length h.co) := k1.hb.cell 3
  have q4 : w1.cell? ⟨h.q, 4, none⟩ = some (.slice h.An T h.cn) := k1.hb.cell 4
  have ql := k1.hb.lt
  obtain ⟨r, hr, hrn⟩ : ∃ r : Nat, r < s.way.length ∧ (y : Int) % (s.way.length : Int) = (r : Int) := ⟨y % s.way.length, Nat.mod_lt _ hz, by omega⟩
  obtain ⟨z, hz2⟩ : ∃ z, s.way[r]? = some z := ⟨_, List.getElem?_eq_getElem hr⟩
  have hx : (s.way.map Wy.to)[r]? = some z.to := by rw [List.getElem?_map, hz2]; rfl
  have hne2 : ((s.way.length : Int) == 0) = false := by rw [beq_eq_false_iff_ne]; omega
  have hnil : ¬ s.way = [] := fun e => by rw [e] at hz; exact absurd hz (by decide)
  have hrt : Int.tmod (y : Int) (s.way.length : Int) = (r : Int) := by rw [rem_nat, ← hrn]; omega
  have hdr := drop_any w1 base h.q _ _ _ _ _ _ _ _ _ s.way (s.way.map Wy.to) r z z.to hz2 hx k1.hb k1.ow k1.oo (by omega) (by omega) hr hr
  obtain ⟨m, kk, j, hLm, hzz⟩ := hi.way z (List.mem_of_getElem? hz2)
  obtain ⟨hkT, hjN⟩ := hi.Lb _ _ _ hLm
  have hmL : m < s.L.length := (List.getElem?_eq_some_iff.1 hLm).1
  have hi2 : OInv T N { s with way := s.way.take r ++ s.way.drop (r + 1) } := hi.sub _ (fun v hv => by
    rcases List.mem_append.1 hv with hv | hv
    · exact List.mem_of_mem_take hv
    · exact List.mem_of_mem_drop hv)
  obtain ⟨nm, hnm⟩ : ∃ nm, id1 kk = nm := ⟨_, rfl⟩
  have hvid := id1_vid (show kk < 16 by omega)
  have hsz := id_small hvid
  rw [hnm] at hsz
  have Hk1 := Lib.hid k1
  have Hnm := Lib.hid hnm
  clear k1 hbT hz2 hx hnm q0 q1 q3 q4
  rcases hzz with rfl | ⟨kd, x, rfl, hkd, hxj, htold⟩
  · as_aux_lemma =>
      have hj0 : ((j : Int) + 1 == 0) = false := by rw [beq_eq_false_iff_ne]; omega
      go_enter Try.func12, Try.ntmps12
      go_wp2_with fail
      refine hdr.mono ?_
      clear hdr hw1
      rintro e w2 hp
      obtain ⟨he, col2, Aw, cw, Ao, co, k2, hc2, hcol⟩ := Hk1.out.dropped hr Hk1.out.base_le hp
      dsimp only [offY] at he
      rw [Hnm.out] at he
      subst he
      have hC2 : Chg (fun b => col b ≠ 0) w w2 := hc1.of_non.trans2 hc2 (fun b e => .inl e)
      have Hk2 := Lib.hid k2
      have hcol2 : ∀ b, b < w.heap.size → col2 b ≠ 0 → col b ≠ 0 := fun b hb e => hcol b (by omega) e
      have Hcol2 := Lib.hid hcol2
      clear hp k2 hc2 hcol hcol2 b0 b1 b2 bl q2 ql hrn hrt hne2 hnil
      go_wp2_with fail
      obtain ⟨w3, hw3⟩ : ∃ w3, w2.alloc (.cells #[.int .i64 4, .int .i64 0, .int .i64 ((m : Int) + 1), .int .i64 1, .string nm, .int .i64 0, .slice none 0 0, .int .i64 0, .int .i64 0, .int .i64 0, .slice none 0 0] 59) = w3 := ⟨_, rfl⟩
      rw [hw3]
      have hc3 : Chg Non w2 w3 := hw3 ▸ (Chg.refl _ _).alloc _
      have hbN : Blk w3 w2.heap.size 59 #[.int .i64 4, .int .i64 0, .int .i64 ((m : Int) + 1), .int .i64 1, .string nm, .int .i64 0, .slice none 0 0, .int .i64 0, .int .i64 0, .int .i64 0, .slice none 0 0] := hw3 ▸ Blk.new _ _ _
      have hf2 : col2 w2.heap.size = 0 := Hk2.out.fresh (Nat.le_refl _)
      have k3 := Hk2.out.non hc3
      have hC3 := hC2.trans2 hc3 (fun b e => e.elim)
      obtain ⟨x, hx⟩ : ∃ x, s.t[j]? = some x := ⟨_, List.getElem?_eq_getElem (by rw [hi.tlen]; exact hjN)⟩
      have htl : j < h.tp.length := by have e : h.tp.length = s.t.length := k3.tl; rw [e, hi.tlen]; exact hjN
      obtain ⟨ad, p, hAt, hp, cp⟩ := k3.ot.rds.getMap (f := tpV) htl
      have hTk : Tk w3 (fun b => col2 b = 8 + j) p.t p.sm p.tm p.ns p.nt x := k3.ht j p x hp hx
      have hpB := hB.tp j p hp
      have hnode := hi.tnode j x hx
      have hn : (offY m kk j).nt.ok := offN_ok (o := ⟨(j : Int) + 1, 1, (m : Int) + 1⟩) (show i64 ((m : Int) + 1) by unfold i64; omega) (show i64 1 by unfold i64; omega) hvid
      have hmay : (offY m kk j).nt.clear.may = true := offN_may (o := ⟨(j : Int) + 1, 1, (m : Int) + 1⟩) (show (0 : Int) ≤ (m : Int) + 1 by omega) (show (m : Int) + 1 ≤ 1000000 by omega) rfl hvid
      obtain ⟨kd, hkd, hk56, hI⟩ := hi2.asks hT hL hLm hx p.ns hn
      have hIn : ∀ wx, Tk wx (fun b => col2 b = 8 + j) p.t p.sm p.tm p.ns p.nt x → Calls Try.prog 17 #[.pointer (some ⟨p.t, 0, none⟩), .agg #[.int .i64 4, .int .i64 0, .int .i64 ((m : Int) + 1), .int .i64 1, .string nm, .int .i64 0, .slice none 0 0, .int .i64 0, .int .i64 0, .int .i64 0, .slice none 0 0]] wx fun e w9 => e = .returned (.tuple #[.agg #[.int .i64 kd, .int .i64 ((j : Int) + 1), .int .i64 ((m : Int) + 1), .int .i64 1, .string nm, .int .i64 0, .slice none 0 0, .int .i64 0, .int .i64 0, .int .i64 0, .slice none 0 0], .bool true]) ∧ (∃ nt2, nt2 ≤ p.nt + 1 ∧ Tk w9 (fun b => col2 b = 8 + j) p.t p.sm p.tm (tkNs x p.ns (offY m kk j).nt hn) nt2 (tkS2 x p.ns (offY m kk j).nt hn)) ∧ Chg (fun b => col2 b = 8 + j) wx w9 := fun wx hTx => by
        have hq := tkIn_offer wx _ p.t p.sm p.tm p.ns p.nt x hTx (offY m kk j).nt none 0 0 none 0 0 ⟨hn, Rds.nil_, Nat.le_refl _, by unfold maxLen; omega, Rds.nil_, Nat.le_refl _, by unfold maxLen; omega⟩ (by omega) (by omega) hmay rfl (by omega) (by omega)
        rw [show (Value.agg (NtC (offY m kk j).nt none 0 0 none 0 0)) = .agg #[.int .i64 4, .int .i64 0, .int .i64 ((m : Int) + 1), .int .i64 1, .string nm, .int .i64 0, .slice none 0 0, .int .i64 0, .int .i64 0, .int .i64 0, .slice none 0 0] from by rw [← Hnm.out]; rfl] at hq
        refine hq.mono fun e w9 h9 => ?_
        unfold TkInPost at h9
        rw [← hkd, hnode, show (Value.agg (NtC (ansN kd ((j : Int) + 1) (offY m kk j).nt) none 0 0 none 0 0)) = .agg #[.int .i64 kd, .int .i64 ((j : Int) + 1), .int .i64 ((m : Int) + 1), .int .i64 1, .string nm, .int .i64 0, .slice none 0 0, .int .i64 0, .int .i64 0, .int .i64 0, .slice none 0 0] from by rw [← Hnm.out]; rfl] at h9
        exact h9
      have hns2 : tkNs x p.ns (offY m kk j).nt hn ≤ p.ns + 1 := by
        unfold tkNs
        split
        · omega
        · split <;> omega
      generalize tkS2 x p.ns (offY m kk j).nt hn = x2 at hIn hI
      generalize tkNs x p.ns (offY m kk j).nt hn = ns2 at hIn hns2
      have hwr : IntKind.i64.wrap ((j : Int) + 1 - 1) = (j : Int) := by rw [IntKind.wrap_i64] <;> omega
      have hwr2 : IntKind.i64.wrap (j : Int) = (j : Int) := by rw [IntKind.wrap_i64]; omega
      have q1 : ∀ wx, Chg (fun b => col2 b = 8 + j) w3 wx → wx.cell? ⟨h.q, 1, none⟩ = some (.slice (some ad) h.tp.length h.ct) := fun wx hc => by
        have := hc.cell (k3.hb.cell 1) (fun e => by have e : col2 h.q = 8 + j := e; rw [k3.cq] at e; omega)
        rw [this, ← hAt]
        rfl
      have tx : ∀ wx, Chg (fun b => col2 b = 8 + j) w3 wx → wx.cell? (ad.add j) = some (.pointer (some ⟨p.t, 0, none⟩)) := fun wx hc => hc.cell cp (fun e => by
        have e : col2 (ad.add j).block = 8 + j := e
        rw [block_add] at e
        obtain ⟨A', c', e5, _, _, _, hb5⟩ := k3.ot.open_
        injection e5 with e5 _ _
        rw [k3.ct ad.block (hb5 ad (e5 ▸ hAt))] at e
        omega)
      have tl := World.block_lt_of_cell? w3 _ cp
      have z0 : ∀ wx, Chg (fun b => col2 b = 8 + j) w3 wx → wx.cell? ⟨w2.heap.size, 0, none⟩ = some (.int .i64 4) := fun wx hc => hc.cell (hbN.cell 0) (fun e => by have e : col2 w2.heap.size = 8 + j := e; rw [hf2] at e; omega)
      have z1 : ∀ wx, Chg (fun b => col2 b = 8 + j) w3 wx → wx.cell? ⟨w2.heap.size, 1, none⟩ = some (.int .i64 0) := fun wx hc => hc.cell (hbN.cell 1) (fun e => by have e : col2 w2.heap.size = 8 + j := e; rw [hf2] at e; omega)
      have z2 : ∀ wx, Chg (fun b => col2 b = 8 + j) w3 wx → wx.cell? ⟨w2.heap.size, 2, none⟩ = some (.int .i64 ((m : Int) + 1)) := fun wx hc => hc.cell (hbN.cell 2) (fun e => by have e : col2 w2.heap.size = 8 + j := e; rw [hf2] at e; omega)
      have z3 : ∀ wx, Chg (fun b => col2 b = 8 + j) w3 wx → wx.cell? ⟨w2.heap.size, 3, none⟩ = some (.int .i64 1) := fun wx hc => hc.cell (hbN.cell 3) (fun e => by have e : col2 w2.heap.size = 8 + j := e; rw [hf2] at e; omega)
      have z4 : ∀ wx, Chg (fun b => col2 b = 8 + j) w3 wx → wx.cell? ⟨w2.heap.size, 4, none⟩ = some (.string nm) := fun wx hc => hc.cell (hbN.cell 4) (fun e => by have e : col2 w2.heap.size = 8 + j := e; rw [hf2] at e; omega)
      have z5 : ∀ wx, Chg (fun b => col2 b = 8 + j) w3 wx → wx.cell? ⟨w2.heap.size, 5, none⟩ = some (.int .i64 0) := fun wx hc => hc.cell (hbN.cell 5) (fun e => by have e : col2 w2.heap.size = 8 + j := e; rw [hf2] at e; omega)
      have z6 : ∀ wx, Chg (fun b => col2 b = 8 + j) w3 wx → wx.cell? ⟨w2.heap.size, 6, none⟩ = some (.slice none 0 0) := fun wx hc => hc.cell (hbN.cell 6) (fun e => by have e : col2 w2.heap.size = 8 + j := e; rw [hf2] at e; omega)
      have z7 : ∀ wx, Chg (fun b => col2 b = 8 + j) w3 wx → wx.cell? ⟨w2.heap.size, 7, none⟩ = some (.int .i64 0) := fun wx hc => hc.cell (hbN.cell 7) (fun e => by have e : col2 w2.heap.size = 8 + j := e; rw [hf2] at e; omega)
      have z8 : ∀ wx, Chg (fun b => col2 b = 8 + j) w3 wx → wx.cell? ⟨w2.heap.size, 8, none⟩ = some (.int .i64 0) := fun wx hc => hc.cell (hbN.cell 8) (fun e => by have e : col2 w2.heap.size = 8 + j := e; rw [hf2] at e; omega)
      have z9 : ∀ wx, Chg (fun b => col2 b = 8 + j) w3 wx → wx.cell? ⟨w2.heap.size, 9, none⟩ = some (.int .i64 0) := fun wx hc => hc.cell (hbN.cell 9) (fun e => by have e : col2 w2.heap.size = 8 + j := e; rw [hf2] at e; omega)
      have z10 : ∀ wx, Chg (fun b => col2 b = 8 + j) w3 wx → wx.cell? ⟨w2.heap.size, 10, none⟩ = some (.slice none 0 0) := fun wx hc => hc.cell (hbN.cell 10) (fun e => by have e : col2 w2.heap.size = 8 + j := e; rw [hf2] at e; omega)
      have zl := hbN.lt
      have ql := k3.hb.lt
      have hTl : ∀ b, (fun b => col2 b = 8 + j) b → b < w3.heap.size := fun b e => by have e : col2 b = 8 + j := e; exact (k3.lt b (by rw [e]; omega)).2
      have Hk3 := Lib.hid k3
      have HIn := Lib.hid hIn
      have Hp := Lib.hid hp
      have HI := Lib.hid hI
      clear k3 hbN hIn hw3 hx cp hp hnode hmay hkd hk56 hI hAt
      refine st_region_last 8 14 12 (fun b => col2 b = 8 + j) [9] [13] (fun i _ _ wx => ∃ nt2, nt2 ≤ p.nt + 1 ∧ Tk wx (fun b => col2 b = 8 + j) p.t p.sm p.tm ns2 nt2 x2) (fun _ _ _ _ => True) (fun i _ v => v = .tuple #[.agg #[.int .i64 kd, .int .i64 ((j : Int) + 1), .int .i64 ((m : Int) + 1), .int .i64 1, .string nm, .int .i64 0, .slice none 0 0, .int .i64 0, .int .i64 0, .int .i64 0, .slice none 0 0], .bool true]) (fun wx => Tk wx (fun b => col2 b = 8 + j) p.t p.sm p.tm p.ns p.nt x) (by kernel_rfl) (by kernel_rfl) (by kernel_rfl) (by kernel_rfl) (by decide) rfl rfl rfl rfl rfl rfl rfl hTl (hTk.non (Chg.refl _ _).drew) (fun _ _ h => h.non ((Chg.refl _ _).alloc _)) ?_
      repeat (first | (refine st_pass (by rfl) ?_; simp only [Act.put, List.setIfInBounds_toArray, List.set_cons_succ, List.set_cons_zero]) | (refine st_plain (fun b => col2 b = 8 + j) (w3) rfl rfl (f := ?_) (by rfl) rfl rfl (fun w hC hG => ?_) ?_; rotate_left; (clear hG; first | (go_simp; done) | (go_simp; with_reducible rfl) | (simp [*, go_sem, ↓IntWalk.iteOmega]; done) | (simp [*, go_sem, ↓IntWalk.iteOmega]; with_reducible rfl)); simp only [Act.put, List.setIfInBounds_toArray, List.set_cons_succ, List.set_cons_zero]))
      refine st_major (fun b => col2 b = 8 + j) (w3) rfl rfl (by rfl) rfl (⟨_, rfl⟩) (fun _ _ _ _ _ _ => trivial) (fun v wx ob h => h.imp fun n2 h => ⟨h.1, h.2.non ((Chg.refl _ wx).alloc ob)⟩) (fun w hC hG hS => settle_of (r2 := ?_) ?_ ?_) ?_
      rotate_left
      (first | (go_simp; done) | (go_simp; rfl))
      · refine settle_enter ((HIn.out w hS).mono ?_)
        rintro e w6 ⟨rfl, hT6, hc6⟩
        exact ⟨_, rfl, rfl, hc6, hT6, trivial⟩
      rintro v hv
      obtain rfl : v = .tuple #[.agg #[.int .i64 kd, .int .i64 ((j : Int) + 1), .int .i64 ((m : Int) + 1), .int .i64 1, .string nm, .int .i64 0, .slice none 0 0, .int .i64 0, .int .i64 0, .int .i64 0, .slice none 0 0], .bool true] := hv
      simp only [Act.put, List.setIfInBounds_toArray, List.set_cons_succ, List.set_cons_zero]
      repeat (first | (refine st_pass (by rfl) ?_; simp only [Act.put, List.setIfInBounds_toArray, List.set_cons_succ, List.set_cons_zero]) | (refine st_plain (fun b => col2 b = 8 + j) (w3) rfl rfl (f := ?_) (by rfl) rfl rfl (fun w hC hG => ?_) ?_; rotate_left; (clear hG; first | (go_simp; done) | (go_simp; with_reducible rfl) | (simp [*, go_sem, ↓IntWalk.iteOmega]; done) | (simp [*, go_sem, ↓IntWalk.iteOmega]; with_reducible rfl)); simp only [Act.put, List.setIfInBounds_toArray, List.set_cons_succ, List.set_cons_zero]))
      refine st_minor (fun b => col2 b = 8 + j) w3 rfl rfl (ob := .cells #[.int .i64 0, .int .i64 0, .int .i64 0, .int .i64 0, .string ⟨#[]⟩, .int .i64 0, .slice none 0 0, .int .i64 0, .int .i64 0, .int .i64 0, .slice none 0 0] 59) (kd := none) (by rfl) rfl rfl (fun w hC hG => by clear hG; go_simp; rfl) (fun g3 => ?_)
      simp only [Act.put, List.setIfInBounds_toArray, List.set_cons_succ, List.set_cons_zero]
      refine st_tail (fun b => col2 b = 8 + j) w3 rfl rfl rfl (fun w7 hC7 hS7 hG7 => ?_)
      have hB3 : Blk w7 g3 59 #[.int .i64 0, .int .i64 0, .int .i64 0, .int .i64 0, .string ⟨#[]⟩, .int .i64 0, .slice none 0 0, .int .i64 0, .int .i64 0, .int .i64 0, .slice none 0 0] := (hG7 13).2
      have hg3 : w3.heap.size ≤ g3 := (hG7 13).1
      have hS8 : ∃ nt2, nt2 ≤ p.nt + 1 ∧ Tk w7 (fun b => col2 b = 8 + j) p.t p.sm p.tm ns2 nt2 x2 := hS7
      clear hG7 hS7
      obtain ⟨nt2, hnt2, hT7⟩ := hS8
      have k7 := Hk3.out.take hC7 Hp.out hT7
      refine ⟨_, exec_store (cs := #[.int .i64 kd, .int .i64 ((j : Int) + 1), .int .i64 ((m : Int) + 1), .int .i64 1, .string nm, .int .i64 0, .slice none 0 0, .int .i64 0, .int .i64 0, .int .i64 0, .slice none 0 0]) _ _ rfl rfl rfl hB3 rfl (by kernel_rfl) (by simp [Value.oneCell']), ?_⟩
      simp only [List.drop_succ_cons, List.drop_zero]
      have hCs : Chg (fun b => b = g3) w7 (w7.setCells g3 0 [.int .i64 kd, .int .i64 ((j : Int) + 1), .int .i64 ((m : Int) + 1), .int .i64 1, .string nm, .int .i64 0, .slice none 0 0, .int .i64 0, .int .i64 0, .int .i64 0, .slice none 0 0]) := Chg.sets (S := fun b => b = g3) (.inl rfl) _ _ _ (Chg.refl _ w7)
      have hbP := Blk.puts [.int .i64 kd, .int .i64 ((j : Int) + 1), .int .i64 ((m : Int) + 1), .int .i64 1, .string nm, .int .i64 0, .slice none 0 0, .int .i64 0, .int .i64 0, .int .i64 0, .slice none 0 0] 0 w7 _ hB3
      simp only [putAll, List.setIfInBounds_toArray, List.set_cons_succ, List.set_cons_zero] at hbP
      show wpList _ _ _ _ _ (w7.setCells g3 0 [.int .i64 kd, .int .i64 ((j : Int) + 1), .int .i64 ((m : Int) + 1), .int .i64 1, .string nm, .int .i64 0, .slice none 0 0, .int .i64 0, .int .i64 0, .int .i64 0, .slice none 0 0])
      obtain ⟨w8, hw8⟩ : ∃ w8, w7.setCells g3 0 [.int .i64 kd, .int .i64 ((j : Int) + 1), .int .i64 ((m : Int) + 1), .int .i64 1, .string nm, .int .i64 0, .slice none 0 0, .int .i64 0, .int .i64 0, .int .i64 0, .slice none 0 0] = w8 := ⟨_, rfl⟩
      rw [hw8] at hCs hbP ⊢
      rw [show mkv none g3 = .pointer (some ⟨g3, 0, none⟩) from rfl]
      have hg0 : col2 g3 = 0 := Hk3.out.fresh hg3
      have k8 := k7.chg hCs (fun b e => by have e : b = g3 := e; rw [e]; exact hg0)
      have hC8 : Chg (fun b => col b ≠ 0) w w8 := (hC3.trans2 hC7 (fun b e => by
        by_cases hb : b < w.heap.size
        · exact .inl (Hcol2.out b hb (by have e : col2 b = 8 + j := e; rw [e]; omega))
        · exact .inr (by omega))).trans2 hCs (fun b e => .inr (by have e : b = g3 := e; have := hC3.size; omega))
      have y0 := hbP.cell 0; have y1 := hbP.cell 1; have y2 := hbP.cell 2; have y3 := hbP.cell 3; have y4 := hbP.cell 4; have y5 := hbP.cell 5; have y6 := hbP.cell 6; have y7 := hbP.cell 7; have y8 := hbP.cell 8; have y9 := hbP.cell 9; have y10 := hbP.cell 10; simp only [List.getElem?_toArray, List.getElem?_cons_zero, List.getElem?_cons_succ] at y0 y1 y2 y3 y4 y5 y6 y7 y8 y9 y10; have yl := hbP.lt
      have hsd := send_any w8 base h.q _ _ _ _ _ _ _ _ _ (s.way.take r ++ s.way.drop (r + 1)) ((s.way.take r ++ s.way.drop (r + 1)).map Wy.to) ⟨kd, (j : Int) + 1, (m : Int) + 1, 1, nm, 0⟩ k8.hb k8.ow k8.oo k8.base_le (by show (s.way.take r ++ s.way.drop (r + 1)).length ≤ _; simp; omega) (by show (s.way.take r ++ s.way.drop (r + 1)).length ≤ _; simp; omega)
      dsimp only at hsd
      have Hk8 := Lib.hid k8
      have Hg7 := hC8.size
      clear k8 k7 hT7 hB3 hbP hCs hw8 hC7 q1 tx tl zl ql hwr hwr2 hTl hTk hC2 hC3 hc3 z0 z1 z2 z3 z4 z5 z6 z7 z8 z9 z10
      go_wp2_with fail
      refine hsd.mono ?_
      clear hsd y0 y1 y2 y3 y4 y5 y6 y7 y8 y9 y10 yl
      rintro e w9 hp
      obtain ⟨rfl, col3, Aw3, cw3, Ao3, co3, k9, hc9, hcol9⟩ := Hk8.out.sent hp
      go_wp2_with fail
      go_end0
      have hI := HI.out
      rw [show ansY kd m kk j = ⟨kd, (j : Int) + 1, (m : Int) + 1, 1, nm, 0⟩ from by unfold ansY; rw [Hnm.out]] at hI
      refine ⟨rfl, col3, _, _, k9, hI, by show s.L.length ≤ _; omega, ⟨by have := hB.ns; show h.ns ≤ _; omega, by have := hB.no; show h.no ≤ _; omega, by have := hB.ln; show h.ln ≤ _; omega, fun i p2 e => ?_⟩, rfl, rfl, hC8.trans2 hc9 (fun b e => ?_), fun b hb e => Hcol2.out b hb (hcol9 b (by omega) e)⟩
      · have e : (h.tp.set j { p with ns := ns2, nt := nt2 })[i]? = some p2 := e
        rw [List.getElem?_set] at e
        by_cases e2 : j = i
        · rw [if_pos e2, if_pos htl] at e
          obtain rfl := Option.some.inj e
          exact ⟨by show ns2 ≤ _; omega, by show nt2 ≤ _; omega⟩
        · rw [if_neg e2] at e
          have := hB.tp i p2 e
          omega
      · by_cases hb : b < w.heap.size
        · exact .inl (Hcol2.out b hb e)
        · exact .inr (by omega)
  · as_aux_lemma =>
      go_enter Try.func12, Try.ntmps12
      go_wp2_with fail
      refine hdr.mono ?_
      clear hdr hw1
      rintro e w2 hp
      obtain ⟨he, col2, Aw, cw, Ao, co, k2, hc2, hcol⟩ := Hk1.out.dropped hr Hk1.out.base_le hp
      dsimp only [ansY] at he
      rw [Hnm.out] at he
      subst he
      have hC2 : Chg (fun b => col b ≠ 0) w w2 := hc1.of_non.trans2 hc2 (fun b e => .inl e)
      have Hk2 := Lib.hid k2
      have hcol2 : ∀ b, b < w.heap.size → col2 b ≠ 0 → col b ≠ 0 := fun b hb e => hcol b (by omega) e
      have Hcol2 := Lib.hid hcol2
      have HI := Lib.hid (hi2.hears hT hL ⟨m, kk, j, hLm, .inr ⟨kd, x, rfl, hkd, hxj, htold⟩⟩)
      clear hp k2 hc2 hcol hcol2 b0 b1 b2 bl q2 ql hrn hrt hne2 hnil
      go_wp2_with fail
      obtain ⟨w3, hw3⟩ : ∃ w3, w2.alloc (.cells #[.int .i64 kd, .int .i64 ((j : Int) + 1), .int .i64 ((m : Int) + 1), .int .i64 1, .string nm, .int .i64 0, .slice none 0 0, .int .i64 0, .int .i64 0, .int .i64 0, .slice none 0 0] 59) = w3 := ⟨_, rfl⟩
      rw [hw3]
      have hc3 : Chg Non w2 w3 := hw3 ▸ (Chg.refl _ _).alloc _
      have hbN : Blk w3 w2.heap.size 59 #[.int .i64 kd, .int .i64 ((j : Int) + 1), .int .i64 ((m : Int) + 1), .int .i64 1, .string nm, .int .i64 0, .slice none 0 0, .int .i64 0, .int .i64 0, .int .i64 0, .slice none 0 0] := hw3 ▸ Blk.new _ _ _
      have k3 := Hk2.out.non hc3
      have hC3 := hC2.trans2 hc3 (fun b e => e.elim)
      have q0 : ∀ wx, Chg Non w3 wx → wx.cell? ⟨h.q, 0, none⟩ = some (.pointer (some ⟨h.g, 0, none⟩)) := fun wx hc => hc.cell (k3.hb.cell 0) id
      have z0 : ∀ wx, Chg Non w3 wx → wx.cell? ⟨w2.heap.size, 0, none⟩ = some (.int .i64 kd) := fun wx hc => hc.cell (hbN.cell 0) id
      have z1 : ∀ wx, Chg Non w3 wx → wx.cell? ⟨w2.heap.size, 1, none⟩ = some (.int .i64 ((j : Int) + 1)) := fun wx hc => hc.cell (hbN.cell 1) id
      have z2 : ∀ wx, Chg Non w3 wx → wx.cell? ⟨w2.heap.size, 2, none⟩ = some (.int .i64 ((m : Int) + 1)) := fun wx hc => hc.cell (hbN.cell 2) id
      have z3 : ∀ wx, Chg Non w3 wx → wx.cell? ⟨w2.heap.size, 3, none⟩ = some (.int .i64 1) := fun wx hc => hc.cell (hbN.cell 3) id
      have z4 : ∀ wx, Chg Non w3 wx → wx.cell? ⟨w2.heap.size, 4, none⟩ = some (.string nm) := fun wx hc => hc.cell (hbN.cell 4) id
      have z5 : ∀ wx, Chg Non w3 wx → wx.cell? ⟨w2.heap.size, 5, none⟩ = some (.int .i64 0) := fun wx hc => hc.cell (hbN.cell 5) id
      have z6 : ∀ wx, Chg Non w3 wx → wx.cell? ⟨w2.heap.size, 6, none⟩ = some (.slice none 0 0) := fun wx hc => hc.cell (hbN.cell 6) id
      have z7 : ∀ wx, Chg Non w3 wx → wx.cell? ⟨w2.heap.size, 7, none⟩ = some (.int .i64 0) := fun wx hc => hc.cell (hbN.cell 7) id
      have z8 : ∀ wx, Chg Non w3 wx → wx.cell? ⟨w2.heap.size, 8, none⟩ = some (.int .i64 0) := fun wx hc => hc.cell (hbN.cell 8) id
      have z9 : ∀ wx, Chg Non w3 wx → wx.cell? ⟨w2.heap.size, 9, none⟩ = some (.int .i64 0) := fun wx hc => hc.cell (hbN.cell 9) id
      have z10 : ∀ wx, Chg Non w3 wx → wx.cell? ⟨w2.heap.size, 10, none⟩ = some (.slice none 0 0) := fun wx hc => hc.cell (hbN.cell 10) id
      have zl := hbN.lt
      have ql := k3.hb.lt
      have Hk3 := Lib.hid k3
      clear k3 hbN hw3
      refine st_region_tail 8 5 Non [] [] (fun _ _ _ _ => True) (fun _ _ _ _ => True) (fun _ _ _ => True) (fun _ => True) (by kernel_rfl) (by kernel_rfl) (by kernel_rfl) (fun _ h => h.elim) trivial (fun _ _ _ => trivial) ?_
      repeat (first | (refine st_pass (by rfl) ?_; simp only [Act.put, List.setIfInBounds_toArray, List.set_cons_succ, List.set_cons_zero]) | (refine st_plain (Non) (w3) rfl rfl (f := ?_) (by rfl) rfl rfl (fun w hC hG => ?_) ?_; rotate_left; (clear hG; first | (go_simp; done) | (go_simp; with_reducible rfl) | (simp [*, go_sem, ↓IntWalk.iteOmega]; done) | (simp [*, go_sem, ↓IntWalk.iteOmega]; with_reducible rfl)); simp only [Act.put, List.setIfInBounds_toArray, List.set_cons_succ, List.set_cons_zero]))
      refine st_tail Non w3 rfl rfl rfl (fun w7 hC7 _ _ => ?_)
      simp only [List.drop_succ_cons, List.drop_zero]
      have k7 := Hk3.out.non hC7
      have hc7 := hC3.trans2 hC7 (fun b e => e.elim)
      have hGi := gvIn_any w7 _ h.g h.sm h.om h.ns h.no s.g k7.hg (ansY kd m kk j).nt none 0 0 none 0 0 (by show (id1 kk).size ≤ maxLen; rw [Hnm.out]; exact hsz) (by have := hB.ns; omega)
      rw [show (Value.agg (NtC (ansY kd m kk j).nt none 0 0 none 0 0)) = .agg #[.int .i64 kd, .int .i64 ((j : Int) + 1), .int .i64 ((m : Int) + 1), .int .i64 1, .string nm, .int .i64 0, .slice none 0 0, .int .i64 0, .int .i64 0, .int .i64 0, .slice none 0 0] from by rw [← Hnm.out]; rfl] at hGi
      have Hk7 := Lib.hid k7
      clear k7 q0 zl ql hC7 hC2 hC3 hc3 z0 z1 z2 z3 z4 z5 z6 z7 z8 z9 z10
      go_wp2_with fail
      refine hGi.mono ?_
      clear hGi
      rintro e w9 h9
      unfold GvInPost at h9
      obtain ⟨rfl, ns9, no9, hns9, hno9, hG9, hc9⟩ := h9
      have k9 := Hk7.out.give hc9 hG9
      have hz7 := hc7.size
      clear hG9
      go_wp2_with fail
      go_end0
      refine ⟨rfl, col2, _, _, k9, HI.out, by show s.L.length ≤ _; omega, ⟨by have := hB.ns; show ns9 ≤ _; omega, by have := hB.no; show no9 ≤ _; omega, by have := hB.ln; show h.ln ≤ _; omega, fun i p2 e => by have := hB.tp i p2 e; omega⟩, rfl, rfl, hc7.trans2 hc9 (fun b e => ?_), fun b hb e => Hcol2.out b hb e⟩
      by_cases hb : b < w.heap.size
      · exact .inl (Hcol2.out b hb (by have e : col2 b = 1 := e; rw [e]; decide))
      · exact .inr (by omega)

theorem turn_any (w : World) (base : Nat) (col : Nat → Nat) (h : Hp) (s : OSt) (T N B : Nat) (k : Wd w base col h s T) (hi : OInv T N s) (hT : T ≤ 16) (hT1 : 1 ≤ T) (hN : N ≤ 10) (hN1 : 1 ≤ N) (hL : s.L.length < 1000) (hB : Bd h B) (hB1 : B ≤ 100000) (hway : s.way.length ≤ 1000) (way K To : Int) :
    Calls Try.prog 12 #[.pointer (some ⟨h.q, 0, none⟩), .agg #[.int .i64 way, .int .i64 K, .int .i64 To], .map (some h.lm)] w (TurnPost w base col h s T N B) := by
  by_cases h0 : way = 0
  · subst h0
    rcases Nat.eq_zero_or_pos h.ns with e | e
    · exact turn_offer0 w base col h s T N B k hi hT hT1 hN hN1 hL hB hB1 hway 0 K To e
    · exact turn_offer w base col h s T N B k hi hT hT1 hN hN1 hL hB hB1 hway 0 K To e
  by_cases h4 : way = 4
  · subst h4
    exact turn_again w base col h s T N B k hi hT hT1 hN hN1 hL hB hB1 hway 4 K To
  have b0 : (way == 0) = false := beq_eq_false_iff_ne.2 h0
  have b4 : (way == 4) = false := beq_eq_false_iff_ne.2 h4
  rcases Nat.eq_zero_or_pos s.way.length with e | e
  · exact turn_none w base col h s T N B k hi hT hT1 hN hN1 hL hB hB1 hway way K To b0 b4 e
  by_cases h1 : way = 1
  · subst h1
    exact turn_in w base col h s T N B k hi hT hT1 hN hN1 hL hB hB1 hway 1 K To e
  by_cases h2 : way = 2
  · subst h2
    exact turn_lost w base col h s T N B k hi hT hT1 hN hN1 hL hB hB1 hway 2 K To e
  exact turn_double w base col h s T N B k hi hT hT1 hN hN1 hL hB hB1 hway way K To b0 b4 (beq_eq_false_iff_ne.2 h1) (beq_eq_false_iff_ne.2 h2) e

set_option maxRecDepth 100000 in
set_option maxHeartbeats 2000000 in
theorem newTaker_max (w : World) (node room : Int) : Calls Try.prog 11 #[.int .i64 node, .int .i64 room] w fun e w2 => ∃ g sm tm F, e = .returned (.pointer (some ⟨g, 0, none⟩)) ∧ Tk w2 F g sm tm 0 0 ⟨node, max 0 room, fun _ => false, fun _ => none⟩ ∧ (∀ b, F b → w.heap.size ≤ b) ∧ Chg Non w w2 := by
  have hmm := @run_makeMap Try.prog
  obtain ⟨r', hmx⟩ : ∃ r', max 0 room = r' := ⟨_, rfl⟩
  rw [hmx]
  have hC : ∀ r, Chg Non w (((w.alloc (.map #[] 0)).alloc (.map #[] 0)).alloc (.cells #[.map (some w.heap.size), .int .i64 node, .int .i64 r, .map (some (w.heap.size + 1))] 51)) := fun r => (((Chg.refl Non w).alloc (.map #[] 0)).alloc (.map #[] 0)).alloc _
  have key : ∃ g sm tm F, Ending.returned (.pointer (some ⟨w.heap.size + 2, 0, none⟩)) = .returned (.pointer (some ⟨g, 0, none⟩)) ∧ Tk (((w.alloc (.map #[] 0)).alloc (.map #[] 0)).alloc (.cells #[.map (some w.heap.size), .int .i64 node,   .int .i64 r', .map (some (w.heap.size + 1))] 51)) F g sm tm 0 0 ⟨node, r', fun _ => false, fun _ => none⟩ ∧ (∀ b, F b → w.heap.size ≤ b) ∧ Chg Non w (((w.alloc (.map #[] 0)).alloc (.map #[] 0)).alloc (.cells #[.map (some w.heap.size), .int .i64 node,   .int .i64 r', .map (some (w.heap.size + 1))] 51)) := by
    have hm1 := Mp.made nmKey w
    have hm2 := Mp.made k3Key (w.alloc (.map #[] 0))
    rw [World.size_alloc] at hm2
    refine ⟨w.heap.size + 2, w.heap.size, w.heap.size + 1, fun b => b = w.heap.size ∨ b = w.heap.size + 1 ∨ b = w.heap.size + 2, rfl, ⟨?_, ((hm1.alloc _).alloc _).congr (fun a => rfl), (hm2.alloc _).congr (fun a => rfl), by omega, .inr (.inr rfl), .inl rfl, .inr (.inl rfl), fun b hb => ?_⟩, fun b hb => by omega, hC _⟩
    · have := Blk.new ((w.alloc (.map #[] 0)).alloc (.map #[] 0)) 51 #[.map (some w.heap.size), .int .i64 node,   .int .i64 r', .map (some (w.heap.size + 1))]
      simpa using this
    · simp
      omega
  have Key := Lib.hid key
  clear key hC
  go_enter Try.func11, Try.ntmps11
  go_wp2_with fail
  go_ret
  exact Key.out


/-- The world as it is built: the giver, the tasks' names, some takers; no note is on the way. -/
structure W0 (w : World) (base : Nat) (col : Nat → Nat) (h : Hp) (g : GvS) (ts : List TkS) (T : Nat) : Prop where
  hb : Blk w h.q 32 #[.pointer (some ⟨h.g, 0, none⟩), .slice h.At h.tp.length h.ct, .slice none 0 0, .slice none 0 0, .slice h.An T h.cn]
  hg : Gv w (fun b => col b = 1) h.g h.sm h.om h.ns h.no g
  ht : ∀ (j : Nat) (p : Tp) (x : TkS), h.tp[j]? = some p → ts[j]? = some x → Tk w (fun b => col b = 8 + j) p.t p.sm p.tm p.ns p.nt x
  tl : h.tp.length = ts.length
  ot : OwnR rkTk w base (.slice h.At h.tp.length h.ct) h.tp.length (h.tp.map tpV)
  on : OwnR rkI w base (.slice h.An T h.cn) T (sv ((List.range T).map id1))
  cq : col h.q = 2
  cn : ∀ b, (Value.slice h.An T h.cn).ownBlock = some b → col b = 5
  ct : ∀ b, (Value.slice h.At h.tp.length h.ct).ownBlock = some b → col b = 6
  lt : ∀ b, col b ≠ 0 → base ≤ b ∧ b < w.heap.size
  mx : ∀ b, col b < 8 + ts.length
open Classical in
noncomputable def col0 (F : Nat → Prop) (q : Nat) (v : Value) (b : Nat) : Nat := if F b then 1 else if b = q then 2 else if v.ownBlock = some b then 5 else 0
open Classical in
noncomputable def colT (col : Nat → Nat) (F : Nat → Prop) (n : Nat) (v : Value) (b : Nat) : Nat := if F b then 8 + n else if v.ownBlock = some b then 6 else if col b = 6 then 0 else col b
def colM (col : Nat → Nat) (m : Nat) (b : Nat) : Nat := if b = m then 7 else col b

theorem W0.start {w : World} {base q g sm om ns no T : Nat} {F : Nat → Prop} {An : Option Addr} {cn : Nat} {s : GvS}
    (hb : Blk w q 32 #[.pointer (some ⟨g, 0, none⟩), .slice none 0 0, .slice none 0 0, .slice none 0 0, .slice An T cn]) (hg : Gv w F g sm om ns no s) (hF : ∀ b, F b → base ≤ b ∧ b < q) (hq : base ≤ q)
    (on : OwnR rkI w (q + 1) (.slice An T cn) T (sv ((List.range T).map id1))) :
    W0 w base (col0 F q (.slice An T cn)) ⟨q, g, sm, om, ns, no, 0, 0, none, 0, none, 0, none, 0, An, cn, []⟩ s [] T := by
  have h1 : (fun b => col0 F q (.slice An T cn) b = 1) = F := funext fun b => propext (by
    unfold col0
    by_cases e : F b
    · rw [if_pos e]; exact ⟨fun _ => e, fun _ => rfl⟩
    · rw [if_neg e]
      constructor
      · intro e2
        split at e2
        · omega
        · split at e2 <;> omega
      · intro e2; exact absurd e2 e)
  refine ⟨hb, by rw [h1]; exact hg, (fun j p x e => nomatch e), rfl, OwnR.nil _ _ _, on.mono (by omega), ?_, ?_, (fun b e => nomatch e), ?_, ?_⟩
  · show col0 F q _ q = 2
    unfold col0
    rw [if_neg (fun e => by have := (hF q e).2; omega), if_pos rfl]
  · intro b e
    have := (on.lt e).1
    unfold col0
    rw [if_neg (fun e2 => by have := (hF b e2).2; omega), if_neg (by omega), if_pos e]
  · intro b e
    unfold col0 at e
    by_cases e1 : F b
    · exact ⟨(hF b e1).1, hg.lt b e1⟩
    · rw [if_neg e1] at e
      by_cases e2 : b = q
      · rw [e2]; exact ⟨hq, hb.lt⟩
      · rw [if_neg e2] at e
        by_cases e3 : (Value.slice An T cn).ownBlock = some b
        · have := on.lt e3
          omega
        · rw [if_neg e3] at e
          exact absurd rfl e
  · intro b
    unfold col0
    split
    · simp
    · split
      · simp
      · split <;> simp
section
variable {w w2 : World} {base : Nat} {col : Nat → Nat} {h : Hp} {g : GvS} {ts : List TkS} {T : Nat}
theorem W0.add (k : W0 w base col h g ts T) {S : Nat → Prop} (hc : Chg S w w2) (hS : ∀ b, S b → col b = 2 ∨ col b = 6) {At : Option Addr} {ct : Nat} {p : Tp} {x : TkS} {F : Nat → Prop}
    (hb : Blk w2 h.q 32 #[.pointer (some ⟨h.g, 0, none⟩), .slice At (h.tp.length + 1) ct, .slice none 0 0, .slice none 0 0, .slice h.An T h.cn])
    (ot : OwnR rkTk w2 base (.slice At (h.tp.length + 1) ct) (h.tp.length + 1) ((h.tp ++ [p]).map tpV)) (fr : ∀ b, (Value.slice At (h.tp.length + 1) ct).ownBlock = some b → ¬ F b ∧ (col b = 6 ∨ w.heap.size ≤ b))
    (hx : Tk w2 F p.t p.sm p.tm p.ns p.nt x) (hF : ∀ b, F b → w.heap.size ≤ b) :
    W0 w2 base (colT col F ts.length (.slice At (h.tp.length + 1) ct)) { h with At := At, ct := ct, tp := h.tp ++ [p] } g (ts ++ [x]) T := by
  have hl : (h.tp ++ [p]).length = h.tp.length + 1 := by simp
  have hbase : base ≤ w.heap.size := by have := k.lt h.q (by rw [k.cq]; decide); omega
  have hnew : ∀ b, w.heap.size ≤ b → col b = 0 := fun b hb => by
    rcases Nat.eq_zero_or_pos (col b) with e | e
    · exact e
    · have := (k.lt b (by omega)).2; omega
  have hbig : ∀ b j, col b = 8 + j → j < ts.length → col b = 8 + j := fun b j e _ => e
  have hkeep : ∀ b c, c ≠ 0 → c ≠ 6 → c ≠ 8 + ts.length → (colT col F ts.length (.slice At (h.tp.length + 1) ct) b = c ↔ col b = c) := fun b c h0 h6 h8 => by
    unfold colT
    by_cases e1 : F b
    · rw [if_pos e1, hnew b (hF b e1)]
      omega
    · rw [if_neg e1]
      by_cases e2 : (Value.slice At (h.tp.length + 1) ct).ownBlock = some b
      · rw [if_pos e2]
        rcases (fr b e2).2 with e | e
        · rw [e]
        · rw [hnew b e]; omega
      · rw [if_neg e2]
        by_cases e3 : col b = 6
        · rw [if_pos e3, e3]; omega
        · rw [if_neg e3]
  have hn : ∀ b c, c ≠ 2 → c ≠ 6 → col b = c → ¬ S b := fun b c h2 h6 e e2 => by rcases hS b e2 with e3 | e3 <;> rw [e3] at e <;> omega
  refine ⟨by rw [hl]; exact hb, ?_, ?_, by simp [k.tl], by rw [hl]; exact ot, k.on.chg hc (fun b e => hn _ _ (by decide) (by decide) (k.cn b e)), (hkeep _ 2 (by decide) (by decide) (by omega)).2 k.cq, fun b e => (hkeep _ 5 (by decide) (by decide) (by omega)).2 (k.cn b e), ?_, ?_, ?_⟩
  · rw [show (fun b => colT col F ts.length (.slice At (h.tp.length + 1) ct) b = 1) = fun b => col b = 1 from funext fun b => propext (hkeep b 1 (by decide) (by decide) (by omega))]
    exact k.hg.chg hc (fun b e => hn _ _ (by decide) (by decide) e)
  · intro j p2 x2 e1 e2
    rcases get_snoc.1 e1 with e1 | ⟨e1, e3⟩
    · rcases get_snoc.1 e2 with e2 | ⟨e2, _⟩
      · have hj : j < ts.length := (List.getElem?_eq_some_iff.1 e2).1
        rw [show (fun b => colT col F ts.length (.slice At (h.tp.length + 1) ct) b = 8 + j) = fun b => col b = 8 + j from funext fun b => propext (hkeep b (8 + j) (by omega) (by omega) (by omega))]
        exact (k.ht j p2 x2 e1 e2).chg hc (fun b e => hn _ _ (by omega) (by omega) e)
      · have := (List.getElem?_eq_some_iff.1 e1).1
        have := k.tl
        omega
    · rcases get_snoc.1 e2 with e2 | ⟨_, e4⟩
      · have := (List.getElem?_eq_some_iff.1 e2).1
        have := k.tl
        omega
      · subst e3 e4
        have hj : j = ts.length := by have := k.tl; omega
        rw [hj, show (fun b => colT col F ts.length (.slice At (h.tp.length + 1) ct) b = 8 + ts.length) = F from funext fun b => propext (by
          unfold colT
          by_cases e5 : F b
          · rw [if_pos e5]; exact ⟨fun _ => e5, fun _ => rfl⟩
          · rw [if_neg e5]
            constructor
            · intro e6
              by_cases e7 : (Value.slice At (h.tp.length + 1) ct).ownBlock = some b
              · rw [if_pos e7] at e6; omega
              · rw [if_neg e7] at e6
                by_cases e8 : col b = 6
                · rw [if_pos e8] at e6; omega
                · rw [if_neg e8] at e6
                  have := k.mx b
                  omega
            · intro e6; exact absurd e6 e5)]
        exact hx
  · intro b e
    rw [hl] at e
    unfold colT
    rw [if_neg (fr b e).1, if_pos e]
  · intro b e
    unfold colT at e
    by_cases e1 : F b
    · exact ⟨Nat.le_trans hbase (hF b e1), hx.lt b e1⟩
    · rw [if_neg e1] at e
      by_cases e2 : (Value.slice At (h.tp.length + 1) ct).ownBlock = some b
      · exact ot.lt e2
      · rw [if_neg e2] at e
        by_cases e3 : col b = 6
        · rw [if_pos e3] at e; exact absurd rfl e
        · rw [if_neg e3] at e
          exact ⟨(k.lt b e).1, Nat.lt_of_lt_of_le (k.lt b e).2 hc.size⟩
  · intro b
    have := k.mx b
    rw [List.length_append, List.length_singleton]
    unfold colT
    split
    · omega
    · split
      · omega
      · split <;> omega
theorem W0.full (k : W0 w base col h g ts T) : Wd (w.alloc (.map #[] 0)) base (colM col w.heap.size) { h with lm := w.heap.size, ln := 0, Aw := none, cw := 0, Ao := none, co := 0 } ⟨g, ts, [], fun _ => none, []⟩ T := by
  have hc : Chg Non w (w.alloc (.map #[] 0)) := (Chg.refl _ _).alloc _
  have hbase : base ≤ w.heap.size := by have := k.lt h.q (by rw [k.cq]; decide); omega
  have h0 : col w.heap.size = 0 := by
    rcases Nat.eq_zero_or_pos (col w.heap.size) with e | e
    · exact e
    · have := (k.lt _ (Nat.pos_iff_ne_zero.1 e)).2; omega
  have hkeep : ∀ b c, c ≠ 0 → c ≠ 7 → (colM col w.heap.size b = c ↔ col b = c) := fun b c hc0 h7 => by
    unfold colM
    by_cases e : b = w.heap.size
    · rw [if_pos e, e, h0]; omega
    · rw [if_neg e]
  refine ⟨k.hb.non hc, ?_, fun j p x e1 e2 => ?_, k.tl, OwnR.nil _ _ _, OwnR.nil _ _ _, k.ot.non hc, k.on.non hc, Mp.made nmKey w, (hkeep _ 2 (by decide) (by decide)).2 k.cq, (fun b e => nomatch e), (fun b e => nomatch e), fun b e => (hkeep _ 5 (by decide) (by decide)).2 (k.cn b e), fun b e => (hkeep _ 6 (by decide) (by decide)).2 (k.ct b e), if_pos rfl, ?_⟩
  · rw [show (fun b => colM col w.heap.size b = 1) = fun b => col b = 1 from funext fun b => propext (hkeep b 1 (by decide) (by decide))]
    exact k.hg.non hc
  · rw [show (fun b => colM col w.heap.size b = 8 + j) = fun b => col b = 8 + j from funext fun b => propext (hkeep b (8 + j) (by omega) (by omega))]
    exact (k.ht j p x e1 e2).non hc
  · intro b e
    rw [World.size_alloc]
    unfold colM at e
    by_cases e1 : b = w.heap.size
    · omega
    · rw [if_neg e1] at e
      have := k.lt b e
      omega
end
def tk0 (room : Int) (j : Nat) : TkS := ⟨(j : Int) + 1, max 0 room, fun _ => false, fun _ => none⟩
theorem OInv.start {T N : Nat} {room : Int} : OInv T N ⟨⟨0, hasL ((List.range T).map id1), fun _ => none, 0⟩, (List.range N).map (tk0 room), [], fun _ => none, []⟩ := by
  have hget : ∀ (j : Nat) (x : TkS), ((List.range N).map (tk0 room))[j]? = some x → x = tk0 room j := fun j x e => by
    rw [List.getElem?_map] at e
    cases hr : (List.range N)[j]? with
    | none => rw [hr] at e; cases e
    | some i =>
      rw [hr] at e
      obtain ⟨h1, h2⟩ := List.getElem?_eq_some_iff.1 hr
      rw [List.getElem_range] at h2
      subst h2
      exact (Option.some.inj e).symm
  refine ⟨rfl, rfl, by simp, fun j x e => by rw [hget j x e]; rfl, (fun m k j e => nomatch e), (fun y hy => nomatch hy), (fun j x key v e e2 => by have e3 := hget j x e; subst e3; cases e2), (fun m k j x e => nomatch e), (fun a o e => nomatch e), fun a e => ?_, fun k hk _ => ⟨rfl, fun j x e => by rw [hget j x e]; rfl⟩, (fun m k j hk e => nomatch e), fun k hk e _ => ?_⟩
  · have e : hasL ((List.range T).map id1) a = true := e
    rw [hasL_true, List.mem_map] at e
    obtain ⟨k, h1, rfl⟩ := e
    exact ⟨k, List.mem_range.1 h1, rfl⟩
  · have e : hasL ((List.range T).map id1) (id1 k) = false := e
    have : hasL ((List.range T).map id1) (id1 k) = true := hasL_true.2 (List.mem_map.2 ⟨k, List.mem_range.2 hk, rfl⟩)
    rw [this] at e
    cases e
end Go.Proofs.Ytflaliomkfbagaa
