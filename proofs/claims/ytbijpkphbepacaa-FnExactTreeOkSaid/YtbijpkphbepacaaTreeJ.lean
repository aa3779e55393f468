/- The law FnExactTreeOk. -/
import Derived.Test.YtbijpkphbepacaaProg
import Derived.Test.YtbijpkphbepacaaTreeI
namespace Go.Proofs.Ytbijpkphbepacaa
open Go.RowKit

theorem law_FnExactTreeOk (n : Int) (s : ByteArray) (w : World) (_ : (Lit.int .i64 n).wf = true) (hs : s.size ≤ maxLen) :
    Calls Try.prog 3 #[.int .i64 n, .string s] w fun e w' => e = .returned (.bool true) ∧ Below w.heap.size w w' := by
  unfold maxLen at hs
  by_cases hl : 1048576 < (s.size : Int)
  · go_enter Try.func3, Try.ntmps3
    go_wp2_with fail
    go_ret
    exact ⟨rfl, Below.refl _ _⟩
  · have hl2 : s.size ≤ 1048576 := by omega
    have k1 := Lib.hid (spec_TreeOk n s hl2)
    have k2 := Lib.hid (impl_TreeOk n s hl2)
    obtain ⟨b, hb⟩ : ∃ b, TB n s.data.toList = b := ⟨_, rfl⟩
    rw [hb] at k1 k2
    clear hb
    go_enter Try.func3, Try.ntmps3
    go_wp2_with fail
    refine (k1.out _).mono ?_
    rintro e w1 ⟨rfl, hb1⟩
    go_wp2_with fail
    refine (k2.out _).mono ?_
    rintro e w2 ⟨rfl, hb2⟩
    have hb3 := hb1.trans (hb2.mono hb1.size)
    clear hb1 hb2
    cases b
    · go_wp2_with fail
      go_ret
      exact ⟨rfl, hb3⟩
    · go_wp2_with fail
      go_ret
      exact ⟨rfl, hb3⟩
end Go.Proofs.Ytbijpkphbepacaa
