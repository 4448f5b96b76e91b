/-
  lineage.Log: Spawned, such, Of, Orphans.
-/
import Derived.Test.YtbkjpeelabdkfaaLin
import Derived.Test.YtbkjpeelabdkfaaRecKeys
import Derived.Test.YtbkjpeelabdkfaaVwPlain
namespace Go.Proofs.Ytbkjpeelabdkfaa
open Go.RowKit
set_option linter.unusedVariables false
set_option linter.unusedSimpArgs false

def spawn1 (node epoch : Int) (p : LS × Int) (a : ByteArray) : LS × Int := if vid a && (p.1 a).isNone then (setR p.1 a ⟨node, epoch, 1, false⟩, p.2 + 1) else p
def spawnN (s : LS) (node epoch : Int) (L : List ByteArray) : LS × Int := L.foldl (spawn1 node epoch) (s, 0)
theorem spawn_step {L : List ByteArray} {k : Nat} {a : ByteArray} (h : L[k]? = some a) (s : LS) (node epoch : Int) : spawnN s node epoch (L.take (k + 1)) = spawn1 node epoch (spawnN s node epoch (L.take k)) a := by
  unfold spawnN
  rw [List.take_add_one, h, List.foldl_append]
  rfl
def SpPost (w : World) (F : Nat → Prop) (g n : Nat) (s : LS) (node epoch : Int) (L : List ByteArray) (e : Ending) (w2 : World) : Prop :=
  e = .returned (.int .i64 (spawnN s node epoch L).2) ∧ ∃ F2 n2, Ln w2 F2 g n2 (spawnN s node epoch L).1 ∧ n2 ≤ n + L.length ∧ (∀ b, F2 b → F b ∨ w.heap.size ≤ b) ∧ Chg F w w2

set_option maxRecDepth 100000 in
set_option maxHeartbeats 2000000 in
theorem linSpawned_any (w : World) (F : Nat → Prop) (g n : Nat) (s : LS) (h : Ln w F g n s) (node epoch : Int) (A : Option Addr) (q c : Nat) (L : List ByteArray) (hr : Rds w 1 A q (sv L)) (hA : ∀ ad, A = some ad → 0 < q → ¬ F ad.block) (hq : q ≤ 1000000) (hn : n ≤ 1000000) (hL : ∀ a ∈ L, a.size ≤ 1000000) :
    Calls Try.prog 8 #[.pointer (some ⟨g, 0, none⟩), .int .i64 node, .int .i64 epoch, .slice A q c] w (SpPost w F g n s node epoch L) := by
  have Hll := Lib.hid (hr.lenMap (f := Value.string))
  have HL := Lib.hid hL
  have hAl : ∀ ad, A = some ad → 0 < q → ad.block < w.heap.size := fun ad e h => by
    obtain ⟨ad2, x, e2, _, h3⟩ := hr.getS h
    rw [e] at e2
    obtain rfl := Option.some.inj e2
    have h4 := World.block_lt_of_cell? w _ h3
    rw [block_add] at h4
    exact h4
  have Hr := Lib.hid hr
  clear hr hL
  go_enter Try.func8, Try.ntmps8
  go_wp2_with fail
  go_loopw [9, 14] (fun p i wr => ∃ (k n2 : Nat) (F2 : Nat → Prop), k ≤ q ∧ i = .int .i64 k ∧ p = .int .i64 (spawnN s node epoch (L.take k)).2 ∧ 0 ≤ (spawnN s node epoch (L.take k)).2 ∧ (spawnN s node epoch (L.take k)).2 ≤ k ∧ Ln wr F2 g n2 (spawnN s node epoch (L.take k)).1 ∧ n2 ≤ n + k ∧ (∀ b, F2 b → F b ∨ w.heap.size ≤ b) ∧ Chg F w wr) (fun _ i _ => q - (intOf i).toNat)
  case atStart => exact ⟨0, n, F, Nat.zero_le _, rfl, rfl, Int.le_refl _, Int.le_refl _, h, Nat.le_refl _, fun b h => .inl h, Chg.refl _ _⟩
  case round =>
    clear h
    obtain ⟨k, n2, F2, hk, rfl, rfl, hc0, hck, hLn, hn2, hF2, hC⟩ := hrel
    by_cases hlt : k < q
    · obtain ⟨ad, a, rfl, ha, hca⟩ := Hr.out.getS hlt
      have a0 := hC.cell hca (by rw [block_add]; exact hA ad rfl (by omega))
      have al := World.block_lt_of_cell? wr _ a0
      have has := HL.out a (List.mem_of_getElem? ha)
      have hst := spawn_step ha s node epoch
      generalize hT : spawnN s node epoch (L.take k) = T at hc0 hck hLn hst ⊢
      clear ha hca hT
      obtain ⟨s2, cnt⟩ := T
      have hc0 : 0 ≤ cnt := hc0
      have hck : cnt ≤ (k : Int) := hck
      have hLn : Ln wr F2 g n2 s2 := hLn
      show _
      cases hv : vid a with
      | false =>
        have hst2 : Hid (spawnN s node epoch (L.take (k + 1)) = (s2, cnt)) := by show _ = _; rw [hst]; unfold spawn1; rw [hv]; rfl
        have Hv := Lib.hid hv
        clear hst hv
        go_wp2_with fail
        refine (valid_any a _).mono ?_
        rintro e w9 ⟨rfl, rfl⟩
        rw [Hv.out]
        go_wp2_with fail
        go_roundw
        case rel => exact ⟨k + 1, n2, F2, by omega, by go_num, by rw [hst2.out], by rw [hst2.out]; exact hc0, by rw [hst2.out]; show cnt ≤ _; omega, by rw [hst2.out]; exact hLn, by omega, hF2, hC⟩
        case measure => simp [intOf]; omega
      | true =>
        obtain ⟨m, f, h⟩ := hLn
        have c0 : wr.cell? ⟨g, 0, none⟩ = some (.map (some m)) := h.hb.cell 0
        have gl := h.hb.lt
        cases hf : f a with
        | some b =>
          have q1 := h.hm.lookS Try.underlying60 (z := .pointer none) (by kernel_rfl) (a := a) (by unfold maxLen; omega) (u := some (ptr b)) (by rw [hf]; rfl)
          obtain ⟨r, hs, _, _⟩ := h.recs a b hf
          simp only [ptr, Option.getD] at q1
          have hst2 : Hid (spawnN s node epoch (L.take (k + 1)) = (s2, cnt)) := by show _ = _; rw [hst]; unfold spawn1; rw [show (s2, cnt).1 a = some r from hs]; simp
          have Hv := Lib.hid hv
          have H := Lib.hid h
          clear hst hv hf hs h
          go_wp2_with fail
          refine (valid_any a _).mono ?_
          rintro e w9 ⟨rfl, rfl⟩
          rw [Hv.out]
          go_wp2_with fail
          go_roundw
          case rel => exact ⟨k + 1, n2, F2, by omega, by go_num, by rw [hst2.out], by rw [hst2.out]; exact hc0, by rw [hst2.out]; show cnt ≤ _; omega, by rw [hst2.out]; exact ⟨m, f, H.out⟩, by omega, hF2, hC⟩
          case measure => simp [intOf]; omega
        | none =>
          have q1 := h.hm.lookS Try.underlying60 (z := .pointer none) (by kernel_rfl) (a := a) (by unfold maxLen; omega) (u := none) (by rw [hf]; rfl)
          simp only [Option.getD] at q1
          have hst2 : Hid (spawnN s node epoch (L.take (k + 1)) = (setR s2 a ⟨node, epoch, 1, false⟩, cnt + 1)) := by show _ = _; rw [hst]; unfold spawn1; rw [show (s2, cnt).1 a = none from h.no a hf, hv]; rfl
          have Hv := Lib.hid hv
          have Hf := Lib.hid hf
          have hwr : IntKind.i64.wrap (cnt + 1) = cnt + 1 := by rw [IntKind.wrap_i64]; omega
          have H := Lib.hid h
          obtain ⟨wB, hwB⟩ : ∃ wB, wr.alloc (.cells (cellR ⟨node, epoch, 1, false⟩) 65) = wB := ⟨_, rfl⟩
          have hcB : Chg Non wr wB := hwB ▸ (Chg.refl _ _).alloc _
          have hmB := h.hm.non hcB
          clear hst hv hf h
          go_wp2_with fail
          refine (valid_any a _).mono ?_
          rintro e w9 ⟨rfl, rfl⟩
          rw [Hv.out]
          go_wp2_with (at_mapUpdate; rw [show wr.alloc (.cells #[.int .i64 node, .int .i64 epoch, .int .i64 1, .bool false] 65) = wB from hwB]; refine wp_store_Mp (K := nmKey) rfl (.tmp 32) (.tmp 33) (.tmp 37) 60 rfl hmB Try.underlying60 (by unfold maxLen; omega) rfl (b := a) (show a.size ≤ maxLen by unfold maxLen; omega) rfl (u := .pointer (some ⟨wr.heap.size, 0, none⟩)) rfl ?_; intro w6 hm6 hc6)
          have hadd := H.out.add Hf.out ⟨node, epoch, 1, false⟩ hm6 (by rw [hwB]; exact hc6)
          have hC6 : Chg F w w6 := (hC.non hcB).trans2 hc6 (fun b e => by
            have e : b = m := e
            rw [e]
            exact hF2 m H.out.Fm)
          have hws := hC.size
          have hF3 : ∀ b, (F2 b ∨ b = wr.heap.size) → F b ∨ w.heap.size ≤ b := fun b hb => hb.elim (hF2 b) (fun e => .inr (by omega))
          go_roundw
          case rel => exact ⟨k + 1, _, fun b => F2 b ∨ b = wr.heap.size, by omega, by go_num, by rw [hst2.out], by rw [hst2.out]; show 0 ≤ cnt + 1; omega, by rw [hst2.out]; show cnt + 1 ≤ _; omega, by rw [hst2.out]; exact ⟨m, _, hadd⟩, by split <;> omega, hF3, hC6⟩
          case measure => simp [intOf]; omega
    · have hst : L.take k = L := List.take_of_length_le (by have := Hll.out; omega)
      rw [hst] at hLn ⊢
      rw [hst] at hc0
      have hlen := Hll.out
      clear hst
      go_wp2_with fail
      go_ret
      exact ⟨rfl, F2, n2, hLn, by omega, hF2, hC⟩

/-- The names of those that have not ended and are such. -/
def suchP (s : LS) (p : Rc → Bool) (a : ByteArray) : Bool := match s a with | some r => !r.ended && p r | none => false
def SuPost (w : World) (s : LS) (p : Rc → Bool) (e : Ending) (w2 : World) : Prop :=
  ∃ A n c L, e = .returned (.slice A n c) ∧ RisesS L ∧ (∀ x, x ∈ L ↔ suchP s p x = true) ∧ OwnR rkI w2 w.heap.size (.slice A n c) n (sv L) ∧ Chg Non w w2

set_option maxRecDepth 100000 in
set_option maxHeartbeats 4000000 in
theorem such_any (w : World) (F : Nat → Prop) (g m n : Nat) (f : ByteArray → Option Nat) (s : LS) (h : LnA w F g m n f s) (hn : n ≤ 1000000) (fid : Nat) (v : Value) (p : Rc → Bool)
    (hcf : ∀ (args : Array Value) (w : World), (callFunc fid args).run Try.prog w = .ok (.enter fid args) w) (hf : Hid (∀ w2 b r, Chg Non w w2 → Blk w2 b 65 (cellR r) → Calls Try.prog fid #[.pointer (some ⟨b, 0, none⟩), v] w2 fun e w3 => e = .returned (.bool (p r)) ∧ Chg Non w2 w3)) :
    Calls Try.prog 34 #[.map (some m), .func (.func fid) #[] #[v]] w (SuPost w s p) := by
  have H := Lib.hid h
  have hK := recKeys w (some m)
  have hS := recSorted w m n _ h.hm (by omega)
  clear h
  go_enter Try.func34, Try.ntmps34
  go_wp2_with fail
  refine hK.mono ?_
  rintro e w2 ⟨rfl, rfl⟩
  go_wp2_with fail
  refine hS.mono ?_
  clear hK hS
  rintro e w3 ⟨v3, q, L, rfl, hq, hql, hrise, hmem, hsz, hown, hc3⟩
  obtain ⟨A, c, rfl, hqc, hcm, hr, _⟩ := hown.open_
  have Hmem := Lib.hid hmem
  have Hsz := Lib.hid hsz
  have Hrise := Lib.hid hrise
  have Hr := Lib.hid hr
  have hqn : q ≤ 1000000 := by omega
  have Hql := Lib.hid hql
  clear hmem hsz hrise hr hown hq hqc hql
  go_wp2_with fail
  go_loopw [5, 13] (fun o i wr => ∃ (k n2 : Nat) (A2 : Option Addr) (c2 : Nat), k ≤ q ∧ n2 ≤ k ∧ i = .int .i64 k ∧ o = .slice A2 n2 c2 ∧ OwnR rkI wr w3.heap.size (.slice A2 n2 c2) n2 (sv ((L.take k).filter (suchP s p))) ∧ Chg Non w3 wr) (fun _ i _ => q - (intOf i).toNat)
  case atStart => exact ⟨0, 0, none, 0, Nat.zero_le _, Nat.le_refl _, rfl, rfl, OwnR.nil _ _ _, Chg.refl _ _⟩
  case round =>
    obtain ⟨k, n2, A2, c2, hk, hn2, rfl, rfl, hown, hC⟩ := hrel
    by_cases hlt : k < q
    · obtain ⟨ad, a, rfl, ha, hca⟩ := Hr.out.getS hlt
      have a0 := hC.cell hca id
      have al := World.block_lt_of_cell? wr _ a0
      have has := Hsz.out a (List.mem_of_getElem? ha)
      have hin := (Hmem.out a).1 (List.mem_of_getElem? ha)
      have hst : (L.take (k + 1)).filter (suchP s p) = (L.take k).filter (suchP s p) ++ (if suchP s p a then [a] else []) := by
        rw [List.take_add_one, ha, List.filter_append]
        cases hx : suchP s p a <;> simp [hx]
      have h := H.out.non (hc3.non hC)
      cases hfa : f a with
      | none => rw [hfa] at hin; cases hin
      | some b =>
        have q1 := h.hm.lookS Try.underlying60 (z := .pointer none) (by kernel_rfl) has (u := some (ptr b)) (by rw [hfa]; rfl)
        obtain ⟨r, hs, hb, hF⟩ := h.recs a b hfa
        simp only [ptr, Option.getD] at q1
        have c3 : wr.cell? ⟨b, 3, none⟩ = some (.bool r.ended) := hb.cell 3
        have bl := hb.lt
        have hsp : suchP s p a = (!r.ended && p r) := by unfold suchP; rw [hs]
        generalize (L.take k).filter (suchP s p) = M at hown hst
        have Hb := Lib.hid hb
        clear ha hca hin hfa hs hF h hb
        cases he : r.ended with
        | true =>
          rw [he] at c3 hsp
          have hst2 : Hid ((L.take (k + 1)).filter (suchP s p) = M) := by show _ = _; rw [hst, hsp]; simp
          clear hst hsp he
          go_wp2_with fail
          go_roundw
          case rel => exact ⟨k + 1, n2, A2, c2, by omega, by omega, by go_num, rfl, by rw [hst2.out]; exact hown, hC⟩
          case measure => simp [intOf]; omega
        | false =>
          rw [he] at c3 hsp
          have hcall := hf.out wr b r (hc3.non hC) Hb.out
          cases hp : p r with
          | false =>
            rw [hp] at hsp hcall
            have hst2 : Hid ((L.take (k + 1)).filter (suchP s p) = M) := by show _ = _; rw [hst, hsp]; simp
            clear hst hsp he hp
            go_wp2_with fail
            refine hcall.mono ?_
            rintro e w5 ⟨rfl, hc5⟩
            clear hcall
            go_wp2_with fail
            go_roundw
            case rel => exact ⟨k + 1, n2, A2, c2, by omega, by omega, by go_num, rfl, by rw [hst2.out]; exact hown.non hc5, hC.non hc5⟩
            case measure => simp [intOf]; omega
          | true =>
            rw [hp] at hsp hcall
            have hst2 : Hid ((L.take (k + 1)).filter (suchP s p) = M ++ [a]) := by show _ = _; rw [hst, hsp]; simp
            clear hst hsp he hp
            go_wp2_with fail
            refine hcall.mono ?_
            rintro e w5 ⟨rfl, hc5⟩
            clear hcall
            have hown5 := hown.non hc5
            have hC5 := hC.non hc5
            clear hown q1 c3 a0 Hb
            go_wp2_with (at_builtin; refine appR1 (K := rkI) rfl (.tmp 30) (.tmp 32) rfl hown5 rfl (cs := #[.string a]) rfl rfl (svI_one [a]) ?_ ?_ ?_; (next => omega); (next => exact hC5.size); intro v6 w6 h6 hc6 hv6; obtain ⟨A6, c6, rfl, _⟩ := h6.open_)
            have hC6 : Chg Non w3 w6 := OwnR.chgApp hown5 hC5 (Nat.le_refl _) hc6
            have h7 : OwnR rkI w6 w3.heap.size (.slice A6 (n2 + 1) c6) (n2 + 1) (sv ((L.take (k + 1)).filter (suchP s p))) := by
              rw [hst2.out, show sv (M ++ [a]) = sv M ++ (#[.string a] : Array Value).toList by simp [sv]]
              exact h6
            go_roundw
            case rel => exact ⟨k + 1, n2 + 1, A6, c6, by omega, by omega, by go_num, rfl, h7, hC6⟩
            case measure => simp [intOf]; omega
    · have hst : L.take k = L := List.take_of_length_le (by have := Hql.out; omega)
      rw [hst] at hown
      clear hst
      go_wp2_with fail
      go_ret
      refine ⟨A2, n2, c2, L.filter (suchP s p), rfl, Hrise.out.filter _, fun x => ?_, hown.mono hc3.size, hc3.non hC⟩
      rw [List.mem_filter, Hmem.out]
      constructor
      · exact fun h => h.2
      · intro h
        refine ⟨?_, h⟩
        cases hfx : f x with
        | some b => rfl
        | none =>
          have := H.out.no x hfx
          unfold suchP at h
          rw [this] at h
          cases h

set_option maxRecDepth 100000 in
theorem of1_any (w : World) (b : Nat) (r : Rc) (p : Nat) (node : Int) (hb : Blk w b 65 (cellR r)) (hp : Blk w p 3 #[.int .i64 node]) :
    Calls Try.prog 38 #[.pointer (some ⟨b, 0, none⟩), .pointer (some ⟨p, 0, none⟩)] w fun e w2 => e = .returned (.bool (r.node == node)) ∧ Chg Non w w2 := by
  have c0 : w.cell? ⟨b, 0, none⟩ = some (.int .i64 r.node) := hb.cell 0
  have p0 : w.cell? ⟨p, 0, none⟩ = some (.int .i64 node) := hp.cell 0
  have bl := hb.lt
  have pl := hp.lt
  clear hb hp
  go_enter Try.func38, Try.ntmps38
  go_wp2_with fail
  go_quiet (fail)
  go_wp2_with fail
  go_ret
  exact ⟨rfl, (Chg.refl _ _).drewN _⟩

theorem linOf_any (w : World) (F : Nat → Prop) (g n : Nat) (s : LS) (h : Ln w F g n s) (hn : n ≤ 1000000) (node : Int) :
    Calls Try.prog 16 #[.pointer (some ⟨g, 0, none⟩), .int .i64 node] w (SuPost w s (fun r => r.node == node)) := by
  have hmf : ∀ (fn : Fn) (first cap : Array Value) (w : World), (Instr.makeFunc fn first cap).run Try.prog w = .ok (.func fn first cap) w := fun _ _ _ _ => rfl
  obtain ⟨w1, hw1⟩ : ∃ w1, w.alloc (.cells #[.int .i64 node] 3) = w1 := ⟨_, rfl⟩
  have hc1 : Chg Non w w1 := hw1 ▸ (Chg.refl _ _).alloc _
  have hbP : Blk w1 w.heap.size 3 #[.int .i64 node] := hw1 ▸ Blk.new _ _ _
  obtain ⟨m, f, h⟩ := h
  have h := h.non hc1
  have c0 : w1.cell? ⟨g, 0, none⟩ = some (.map (some m)) := h.hb.cell 0
  have gl := h.hb.lt
  have hS := such_any w1 F g m n f s h hn 38 (.pointer (some ⟨w.heap.size, 0, none⟩)) (fun r => r.node == node) (enters Try.func38 (by kernel_rfl) rfl) (fun w2 b r hc2 hb => of1_any w2 b r w.heap.size node hb (hbP.non hc2))
  clear h hbP
  go_enter Try.func16, Try.ntmps16
  go_wp2_with fail
  refine hS.mono ?_
  rintro e w2 ⟨A, k, c, L, rfl, h1, h2, h3, h4⟩
  clear hS
  go_wp2_with fail
  go_ret
  exact ⟨A, k, c, L, rfl, h1, h2, h3.mono hc1.size, hc1.non h4⟩

set_option maxRecDepth 100000 in
theorem orphan11_any (w : World) (x y : Int) (p b : Nat) (r : Rc) (hp : Blk w p 63 #[.pointer (some ⟨b, 0, none⟩)]) (hb : Blk w b 65 (cellR r)) :
    Calls Try.prog 37 #[.agg #[.int .i64 x, .int .i64 y], .pointer (some ⟨p, 0, none⟩)] w fun e w2 => e = .returned (.bool (x == r.node)) ∧ Chg Non w w2 := by
  obtain ⟨w1, hw1⟩ : ∃ w1, w.alloc (.cells #[.int .i64 x, .int .i64 y] 68) = w1 := ⟨_, rfl⟩
  have hc1 : Chg Non w w1 := hw1 ▸ (Chg.refl _ _).alloc _
  have hbX : Blk w1 w.heap.size 68 #[.int .i64 x, .int .i64 y] := hw1 ▸ Blk.new _ _ _
  have x0 : w1.cell? ⟨w.heap.size, 0, none⟩ = some (.int .i64 x) := hbX.cell 0
  have c0 : w1.cell? ⟨b, 0, none⟩ = some (.int .i64 r.node) := (hb.non hc1).cell 0
  have p0 : w1.cell? ⟨p, 0, none⟩ = some (.pointer (some ⟨b, 0, none⟩)) := (hp.non hc1).cell 0
  have bl := (hb.non hc1).lt
  have pl := (hp.non hc1).lt
  have xl := hbX.lt
  clear hb hp hbX
  go_enter Try.func37, Try.ntmps37
  go_wp2_with fail
  go_quiet (fail)
  go_wp2_with fail
  go_ret
  exact ⟨rfl, hc1.drewN _⟩

theorem containsFuncM_any (w : World) (A : Option Addr) (n c : Nat) (L : List Mb) (fid : Nat) (v : Value) (p : Mb → Bool) (h1 : Rds w 2 A n (mv L)) (hn : n ≤ 9223372036854775807)
    (hcf : ∀ (args : Array Value) (w : World), (callFunc fid args).run Try.prog w = .ok (.enter fid args) w) (hf : Hid (∀ w2 m, Chg Non w w2 → m ∈ L → Calls Try.prog fid #[.agg #[.int .i64 m.1, .int .i64 m.2], v] w2 fun e w3 => e = .returned (.bool (p m)) ∧ Chg Non w2 w3)) :
    Calls Try.prog 36 #[.slice A n c, .func (.func fid) #[] #[v]] w fun e w2 => e = .returned (.bool (L.any p)) ∧ Chg Non w w2 := by
  have hg := Lib.hid (fIdx_ge L p)
  go_enter Try.func36, Try.ntmps36
  go_wp2_with fail
  refine (indexFuncM_any w A n c L fid v p h1 hn hcf hf).mono ?_
  rintro e w2 ⟨rfl, hc2⟩
  generalize fIdx L p = q at hg ⊢
  go_wp2_with fail
  go_ret
  exact ⟨by rw [← hg.out]; rfl, hc2⟩

theorem orphan1_any (w : World) (b : Nat) (r : Rc) (p : Nat) (ep : Int) (A : Option Addr) (n c : Nat) (M : List Mb) (hb : Blk w b 65 (cellR r)) (hp : Blk w p 34 #[.int .i64 ep, .slice A n c]) (hM : Rds w 2 A n (mv M)) (hn : n ≤ 9223372036854775807) :
    Calls Try.prog 35 #[.pointer (some ⟨b, 0, none⟩), .pointer (some ⟨p, 0, none⟩)] w fun e w2 => e = .returned (.bool (!(M.any fun m => m.1 == r.node))) ∧ Chg Non w w2 := by
  have hmf : ∀ (fn : Fn) (first cap : Array Value) (w : World), (Instr.makeFunc fn first cap).run Try.prog w = .ok (.func fn first cap) w := fun _ _ _ _ => rfl
  obtain ⟨w1, hw1⟩ : ∃ w1, w.alloc (.cells #[.pointer (some ⟨b, 0, none⟩)] 63) = w1 := ⟨_, rfl⟩
  have hc1 : Chg Non w w1 := hw1 ▸ (Chg.refl _ _).alloc _
  have hbX : Blk w1 w.heap.size 63 #[.pointer (some ⟨b, 0, none⟩)] := hw1 ▸ Blk.new _ _ _
  have p1 : w1.cell? ⟨p, 1, none⟩ = some (.slice A n c) := (hp.non hc1).cell 1
  have pl := (hp.non hc1).lt
  have hS := containsFuncM_any w1 A n c M 37 (.pointer (some ⟨w.heap.size, 0, none⟩)) (fun m => m.1 == r.node) (hM.non hc1) hn (enters Try.func37 (by kernel_rfl) rfl) (fun w2 m hc2 _ => orphan11_any w2 m.1 m.2 w.heap.size b r (hbX.non hc2) ((hb.non hc1).non hc2))
  clear hb hp hbX hM
  go_enter Try.func35, Try.ntmps35
  go_wp2_with fail
  refine hS.mono ?_
  rintro e w2 ⟨rfl, hc2⟩
  clear hS
  go_wp2_with fail
  go_ret
  exact ⟨rfl, hc1.non hc2⟩

def orphanP (M : List Mb) (r : Rc) : Bool := !(M.any fun m => m.1 == r.node)
theorem linOrphans_any (w : World) (F : Nat → Prop) (g n : Nat) (s : LS) (h : Ln w F g n s) (hn : n ≤ 1000000) (ep : Int) (A : Option Addr) (q c : Nat) (M : List Mb) (hM : Rds w 2 A q (mv M)) (hq : q ≤ 9223372036854775807) :
    Calls Try.prog 14 #[.pointer (some ⟨g, 0, none⟩), .agg #[.int .i64 ep, .slice A q c]] w (SuPost w s (orphanP M)) := by
  have hmf : ∀ (fn : Fn) (first cap : Array Value) (w : World), (Instr.makeFunc fn first cap).run Try.prog w = .ok (.func fn first cap) w := fun _ _ _ _ => rfl
  obtain ⟨w1, hw1⟩ : ∃ w1, w.alloc (.cells #[.int .i64 ep, .slice A q c] 34) = w1 := ⟨_, rfl⟩
  have hc1 : Chg Non w w1 := hw1 ▸ (Chg.refl _ _).alloc _
  have hbP : Blk w1 w.heap.size 34 #[.int .i64 ep, .slice A q c] := hw1 ▸ Blk.new _ _ _
  obtain ⟨m, f, h⟩ := h
  have h := h.non hc1
  have c0 : w1.cell? ⟨g, 0, none⟩ = some (.map (some m)) := h.hb.cell 0
  have gl := h.hb.lt
  have hS := such_any w1 F g m n f s h hn 35 (.pointer (some ⟨w.heap.size, 0, none⟩)) (orphanP M) (enters Try.func35 (by kernel_rfl) rfl) (fun w2 b r hc2 hb => orphan1_any w2 b r w.heap.size ep A q c M hb (hbP.non hc2) ((hM.non hc1).non hc2) hq)
  clear h hbP hM
  go_enter Try.func14, Try.ntmps14
  go_wp2_with fail
  refine hS.mono ?_
  rintro e w2 ⟨A2, k, c2, L, rfl, h1, h2, h3, h4⟩
  clear hS
  go_wp2_with fail
  go_ret
  exact ⟨A2, k, c2, L, rfl, h1, h2, h3.mono hc1.size, hc1.non h4⟩
end Go.Proofs.Ytbkjpeelabdkfaa
