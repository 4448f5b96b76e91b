/-
  move.Taker.In of an offer, in all ways.
-/
import Derived.Test.YtflaliomkfbagaaMvTkTold
import Derived.Test.YtflaliomkfbagaaMvTkTake2
import Derived.Test.YtflaliomkfbagaaMvTkHad
import Derived.Test.YtflaliomkfbagaaMvTkFull
namespace Go.Proofs.Ytflaliomkfbagaa
open Go.RowKit
set_option linter.unusedVariables false
set_option linter.unusedSimpArgs false

theorem tkIn_offer (w : World) (F : Nat → Prop) (g sm tm ns nt : Nat) (s : TkS) (h : Tk w F g sm tm ns nt s) (n : Nt) (A : Option Addr) (k c : Nat) (B : Option Addr) (m d : Nat) (hN : NtAt w n A k c B m d) (hk : k ≤ 1099511627776) (hm : m ≤ 1099511627776) (hmay : n.clear.may = true) (hkind : n.kind = 4) (hns : ns ≤ 1000000) (hnt : nt ≤ 1000000) :
    Calls Try.prog 17 #[.pointer (some ⟨g, 0, none⟩), .agg (NtC n A k c B m d)] w (TkInPost w F g sm tm ns nt s n hN.ok) := by
  cases ht : s.told (keyN n hN.ok) with
  | some v0 => exact tkIn_told w F g sm tm ns nt s h n A k c B m d hN hk hm hmay hkind v0 ht hns hnt
  | none =>
    by_cases h2 : (ns : Int) < s.room
    · cases h3 : s.has n.id with
      | false => exact tkIn_take2 w F g sm tm ns nt s h n A k c B m d hN hk hm hmay hkind ht h2 h3 hns hnt
      | true => exact tkIn_had w F g sm tm ns nt s h n A k c B m d hN hk hm hmay hkind ht h2 h3 hns hnt
    · exact tkIn_full w F g sm tm ns nt s h n A k c B m d hN hk hm hmay hkind ht h2 hns hnt
end Go.Proofs.Ytflaliomkfbagaa
