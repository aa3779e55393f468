/- The law FnExactGuessesOk. -/
import Derived.Test.YtkkjgcpkimjfkaaProg
import Derived.Test.YtkkjgcpkimjfkaaGs5
namespace Go.Proofs.Ytkkjgcpkimjfkaa
open Go.RowKit

set_option maxHeartbeats 2000000 in
theorem law_FnExactGuessesOk (b0 b1 : Int) (a0 : Option Addr) (len0 cap0 : Nat) (gs : List Gs) (w : World) (_ : (Lit.int .i64 b0).wf = true) (_ : (Lit.int .i64 b1).wf = true) (w0 : RdG w (.slice a0 len0 cap0) gs) :
    Calls Try.prog 6 #[.int .i64 b0, .int .i64 b1, .slice a0 len0 cap0] w fun e w' => e = .returned (.bool true) ∧ Below w.heap.size w w' := by
  have H0 := Lib.hid w0
  have KS := Lib.hid (szGuessS_any _ gs w w0)
  clear w0
  go_enter Try.func6, Try.ntmps6
  go_wp2_with fail
  refine KS.out.mono ?_
  rintro e w1 ⟨⟨r, rfl, hr⟩, hb1⟩
  have B1 := Lib.hid hb1
  clear hb1 KS
  rcases hr with hr | ⟨hr0, hlen, hcs⟩
  · go_wp2_with fail
    go_ret
    exact ⟨rfl, B1.out⟩
  · have HL := Lib.hid hlen
    have HC := Lib.hid hcs
    have hr1 : ¬ r < 0 := by omega
    clear hlen hcs
    go_wp2_with fail
    refine (toGuessS_any _ gs _ (H0.out.below B1.out) HL.out HC.out).mono ?_
    rintro e w2 ⟨⟨u2, rfl, o2⟩, hb2⟩
    have B2 := Lib.hid (B1.out.trans (hb2.mono B1.out.size))
    have O2 := Lib.hid o2
    clear o2 hb2
    go_wp2_with fail
    refine (spec_GuessesOk b0 b1 u2 gs _ O2.out.rd).mono ?_
    rintro e w3 ⟨rfl, hb3⟩
    have B3 := Lib.hid (B2.out.trans (hb3.mono B2.out.size))
    clear hb3 O2
    go_wp2_with fail
    refine (toGuessS_any _ gs _ (H0.out.below B3.out) HL.out HC.out).mono ?_
    rintro e w4 ⟨⟨u4, rfl, o4⟩, hb4⟩
    have B4 := Lib.hid (B3.out.trans (hb4.mono B3.out.size))
    have O4 := Lib.hid o4
    clear o4 hb4
    go_wp2_with fail
    refine (impl_GuessesOk b0 b1 u4 gs _ O4.out.rd).mono ?_
    rintro e w5 ⟨rfl, hb5⟩
    have B5 := Lib.hid (B4.out.trans (hb5.mono B4.out.size))
    have O5 := Lib.hid (O4.out.below hb5)
    clear hb5 O4
    go_wp2_with fail
    refine (toGuessS_any _ gs _ (H0.out.below B5.out) HL.out HC.out).mono ?_
    rintro e w6 ⟨⟨u6, rfl, o6⟩, hb6⟩
    have B6 := Lib.hid (B5.out.trans (hb6.mono B5.out.size))
    have O6 := Lib.hid (O5.out.below hb6)
    have P6 := Lib.hid o6
    clear o6 hb6 O5
    go_wp2_with fail
    refine (eqGuessS_yes _ _ gs _ O6.out.rd P6.out.rd).mono ?_
    rintro e w7 ⟨rfl, hb7⟩
    have B7 := Lib.hid (B6.out.trans (hb7.mono B6.out.size))
    clear hb7
    go_wp2_with fail
    go_ret
    exact ⟨rfl, B7.out⟩
end Go.Proofs.Ytkkjgcpkimjfkaa
