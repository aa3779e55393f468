/- impl.SureWith. -/
import Derived.Test.YtpdijlpdkdhgpaaProg
import Derived.Test.YtpdijlpdkdhgpaaPrices6
import Derived.Test.YtpdijlpdkdhgpaaPrices2
namespace Go.Proofs.Ytpdijlpdkdhgpaa
open Go.RowKit

def SW (xs : List Int) : Int := if POk xs = true then Cx xs 0 xs.length else -1
theorem SW_bad {xs : List Int} (h : POk xs = false) : SW xs = -1 := by unfold SW; rw [h]; rfl
theorem SW_ok {xs : List Int} (h : POk xs = true) : SW xs = Cx xs 0 xs.length := if_pos h
theorem POk_all {xs : List Int} (h : POk xs = true) (j : Nat) : 0 ≤ xs.getD j 0 ∧ xs.getD j 0 ≤ 50 := by
  by_cases hj : j < xs.length
  · exact (POk_bd h).2 j hj
  · rw [List.getD_eq_getElem?_getD, List.getElem?_eq_none (by omega)]; simp

set_option maxHeartbeats 1000000 in
theorem impl_SureWith (v : Value) (xs : List Int) (w : World) (h : Rd w v xs) :
    Calls Try.prog 17 #[v] w fun e w' => e = .returned (.int .i64 (SW xs)) ∧ Below w.heap.size w w' := by
  have k0 := Lib.hid (impl_PricesOk v xs w h)
  cases hok : POk xs with
  | false =>
    rw [SW_bad hok]
    rw [hok] at k0
    clear hok h
    go_enter Try.func17, Try.ntmps17
    go_wp2_with fail
    refine k0.out.mono ?_
    rintro e w1 ⟨rfl, hb1⟩
    go_wp2_with fail
    go_ret
    exact ⟨rfl, hb1⟩
  | true =>
    rw [SW_ok hok]
    rw [hok] at k0
    have hx := POk_all hok
    have hn9 := (POk_bd hok).1
    have HX := Lib.hid hx
    have HR := Lib.hid h
    obtain ⟨ao, ca, rfl, _, _⟩ := h
    clear hok hx
    go_enter Try.func17, Try.ntmps17
    go_wp2_with fail
    refine k0.out.mono ?_
    rintro e w1 ⟨rfl, hb1⟩
    have K1 := Lib.hid (plansFor_any xs xs.length _ w1 rfl hn9 HX.out (HR.out.below hb1))
    clear k0
    go_wp2_with fail
    refine K1.out.mono ?_
    rintro e w2 ⟨Bp, BN, BF, mN, mF, f, g, rfl, hp, hN, hF, hs, hb2⟩
    have hl := hN.get 0 xs.length (by omega) (by omega) (hs.need 0 xs.length (by omega) (Nat.le_refl _) (.inl (by omega)))
    have hp1 := hp.c1
    have HB := Lib.hid (hb1.trans (hb2.mono hb1.size))
    have hl0 : (Instr.lookup 37 (.map (some BN)) (.agg #[.int .i64 0, .int .i64 xs.length]) false).run Try.prog w2 = .ok (.int .i64 (Cx xs 0 xs.length)) w2 := hl
    clear hp hN hF hs hb1 hb2 K1 hl
    go_wp2_with fail
    go_ret
    exact ⟨rfl, HB.out⟩
end Go.Proofs.Ytpdijlpdkdhgpaa
