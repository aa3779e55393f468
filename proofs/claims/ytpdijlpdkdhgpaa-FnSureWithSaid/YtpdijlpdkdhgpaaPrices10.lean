/- spec.SureWith; the law FnExactSureWith. -/
import Derived.Test.YtpdijlpdkdhgpaaProg
import Derived.Test.YtpdijlpdkdhgpaaPrices9
namespace Go.Proofs.Ytpdijlpdkdhgpaa
open Go.RowKit

set_option maxHeartbeats 1000000 in
theorem spec_SureWith (v : Value) (xs : List Int) (w : World) (h : Rd w v xs) :
    Calls Try.prog 16 #[v] w fun e w' => e = .returned (.int .i64 (SW xs)) ∧ Below w.heap.size w w' := by
  have k0 := Lib.hid (spec_PricesOk v xs w h)
  cases hok : POk xs with
  | false =>
    rw [SW_bad hok]
    rw [hok] at k0
    clear hok h
    go_enter Try.func16, Try.ntmps16
    go_wp2_with fail
    refine k0.out.mono ?_
    rintro e w1 ⟨rfl, rfl⟩
    go_wp2_with fail
    go_ret
    exact ⟨rfl, Below.refl _ _⟩
  | true =>
    rw [SW_ok hok]
    rw [hok] at k0
    have hn9 := (POk_bd hok).1
    have K1 := Lib.hid (table_any xs xs.length v w rfl hn9 (POk_all hok) h)
    obtain ⟨ao, ca, rfl, _, _⟩ := h
    clear hok
    go_enter Try.func16, Try.ntmps16
    go_wp2_with fail
    refine k0.out.mono ?_
    rintro e w1 ⟨rfl, rfl⟩
    clear k0
    go_wp2_with fail
    refine K1.out.mono ?_
    rintro e w2 ⟨gC, gB, cC, cB, ρC, ρB, TC, TB, rfl, hC, hB, hs, hb⟩
    have h1 : w2.cell? ⟨gC, 0, none⟩ = some (.slice (some ⟨ρC 0, 0, none⟩) (xs.length + 1) (xs.length + 1)) := hC.cellg 0 (by omega)
    have h2 : w2.cell? ⟨ρC 0, xs.length, none⟩ = some (.int .i64 (Cx xs 0 xs.length)) := by
      rw [← hs.1 0 xs.length (by omega) (Nat.le_refl _) (.inl (by omega))]; exact (hC.row 0 (by omega) xs.length (by omega)).1
    have i1 : (0 : Int) < (xs.length : Int) + 1 := by omega
    have i2 : (0 : Int) ≤ (xs.length : Int) := by omega
    have i3 : (xs.length : Int) < (xs.length : Int) + 1 := by omega
    have HB := Lib.hid hb
    clear hC hB hs hb K1
    go_wp2_with fail
    go_ret
    exact ⟨rfl, HB.out⟩

set_option maxHeartbeats 1000000 in
theorem law_FnExactSureWith (a0 : Option Addr) (len0 cap0 : Nat) (z0 : List Int) (w : World) (w0 : IsRow .i64 w a0 len0 cap0 z0) :
    Calls Try.prog 5 #[.slice a0 len0 cap0] w fun e w' => e = .returned (.bool true) ∧ Below w.heap.size w w' := by
  obtain ⟨hr, hm, hlen⟩ := Rd.of_row w0
  clear w0
  generalize z0.take len0 = xs at *
  by_cases hl : 1048576 < len0
  · unfold maxLen at hm
    go_enter Try.func5, Try.ntmps5
    go_wp2_with fail
    go_ret
    exact ⟨rfl, Below.refl _ _⟩
  · have hx : xs.length ≤ 1048576 := by omega
    clear hlen hm
    have hr0 := Lib.hid hr
    clear hr
    go_enter Try.func5, Try.ntmps5
    go_wp2_with fail
    refine (toIntS_any _ xs _ hr0.out hx).mono ?_
    rintro e w1 ⟨u1, rfl, o1, hb1⟩
    have hr1 := Lib.hid (hr0.out.below hb1)
    go_wp2_with fail
    refine (spec_SureWith _ xs _ o1.rd).mono ?_
    rintro e w2 ⟨rfl, hb2⟩
    have hr2 := Lib.hid (hr1.out.below hb2)
    go_wp2_with fail
    refine (toIntS_any _ xs _ hr2.out hx).mono ?_
    rintro e w3 ⟨u3, rfl, o3, hb3⟩
    have hr3 := Lib.hid (hr2.out.below hb3)
    go_wp2_with fail
    refine (impl_SureWith _ xs _ o3.rd).mono ?_
    rintro e w4 ⟨rfl, hb4⟩
    have hr4 := Lib.hid (hr3.out.below hb4)
    have o4 := o3.below hb4
    go_wp2_with fail
    refine (toIntS_any _ xs _ hr4.out hx).mono ?_
    rintro e w5 ⟨u5, rfl, o5, hb5⟩
    have o5' := o4.below hb5
    go_wp2_with fail
    refine (eqIntS_yes _ _ xs _ o5'.rd o5.rd).mono ?_
    rintro e w6 ⟨rfl, hb6⟩
    go_wp2_with fail
    go_ret
    have s1 := hb1.size
    have s2 := hb2.size
    have s3 := hb3.size
    have s4 := hb4.size
    have s5 := hb5.size
    exact ⟨rfl, hb1.trans ((hb2.mono s1).trans ((hb3.mono (by omega)).trans ((hb4.mono (by omega)).trans ((hb5.mono (by omega)).trans (hb6.mono (by omega))))))⟩
end Go.Proofs.Ytpdijlpdkdhgpaa
