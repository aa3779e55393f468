/- The law FnSureWith, walked. -/
import Derived.Test.YtpdijlpdkdhgpaaProg
import Derived.Test.YtpdijlpdkdhgpaaPrices13
namespace Go.Proofs.Ytpdijlpdkdhgpaa
open Go.RowKit

set_option maxHeartbeats 2000000 in
theorem law_FnSureWith (a0 : Option Addr) (len0 cap0 : Nat) (z0 : List Int) (w : World) (w0 : IsRow .u8 w a0 len0 cap0 z0) :
    Calls Try.prog 9 #[.slice a0 len0 cap0] w fun e w' => e = .returned (.bool true) ∧ Below w.heap.size w w' := by
  have hc := Code8.of_row w0
  clear w0
  by_cases hl : 1048576 < len0
  · go_enter Try.func9, Try.ntmps9
    go_wp2_with fail
    go_ret
    exact ⟨rfl, Below.refl _ _⟩
  · have k9 : Hid (∀ w' : World, Calls Try.prog 17 #[.slice (some ⟨w'.heap.size, 0, none⟩) 9 9] (w'.alloc (.cells #[.int .i64 1, .int .i64 2, .int .i64 3, .int .i64 4, .int .i64 5, .int .i64 6, .int .i64 7, .int .i64 8, .int .i64 9] 3)) fun e w'' => e = .returned (.int .i64 14) ∧ Below (w'.alloc (.cells #[.int .i64 1, .int .i64 2, .int .i64 3, .int .i64 4, .int .i64 5, .int .i64 6, .int .i64 7, .int .i64 8, .int .i64 9] 3)).heap.size (w'.alloc (.cells #[.int .i64 1, .int .i64 2, .int .i64 3, .int .i64 4, .int .i64 5, .int .i64 6, .int .i64 7, .int .i64 8, .int .i64 9] 3)) w'') := fun w' => by
      have := impl_SureWith _ _ _ (rd_lit w' [1, 2, 3, 4, 5, 6, 7, 8, 9] (by decide))
      rw [SW_nine] at this
      exact this
    go_enter Try.func9, Try.ntmps9
    go_wp2_with fail
    refine (draw_SureWith _ _ _ _ hc).mono ?_
    rintro e w1 ⟨v, L, rfl, hown, hlen, hb1⟩
    have R1 := Lib.hid (Ow.of_row hown (by simp only [maxLen]; omega)).rd
    have HOW := Lib.hid hown
    clear hc hown
    go_wp2_with fail
    refine (impl_SureWith _ L _ R1.out).mono ?_
    rintro e w2 ⟨rfl, hb2⟩
    have R2 := Lib.hid (R1.out.below hb2)
    go_wp2_with fail
    refine (spec_SureWith _ L _ R2.out).mono ?_
    rintro e w3 ⟨rfl, hb3⟩
    have R3 := Lib.hid (R2.out.below hb3)
    have hb := hb1.trans ((hb2.mono hb1.size).trans (hb3.mono (Nat.le_trans hb1.size hb2.size)))
    clear R1 R2 hb1 hb2 hb3
    cases hok : POk L with
    | false =>
      rw [SW_bad hok]
      clear hok HOW
      go_wp2_with (first | (go_at_call 21; refine (alive_any _).mono ?_; rintro e w5 ⟨rfl, rfl⟩))
      go_ret
      exact ⟨rfl, hb⟩
    | true =>
      have f0 : 0 ≤ SW L := by rw [SW_ok hok]; exact Cx_nn (POk_all hok) _ _
      have f1 := Lib.hid (SW_rev hok)
      have f2 := Lib.hid (fun h => SW_tail hok h)
      go_wp2_with fail
      refine (turnedRow_any _ L _ R3.out (by omega)).mono ?_
      rintro e w4 ⟨u, rfl, hu, hb4⟩
      have R4 := Lib.hid (R3.out.below hb4)
      have B4 := hb.trans (hb4.mono hb.size)
      clear R3 hb hb4
      go_wp2_with fail
      refine (impl_SureWith _ _ _ hu).mono ?_
      rintro e w5 ⟨rfl, hb5⟩
      rw [f1.out]
      have R5 := Lib.hid (R4.out.below hb5)
      have B5 := B4.trans (hb5.mono B4.size)
      clear R4 B4 hb5 hu f1
      by_cases hL0 : 0 < L.length
      · obtain ⟨g, cap, rfl, hg1, hg2, hcap, hcm⟩ := owns_form HOW.out hL0
        clear HOW
        have hl0 : ((L.length : Int) == 0) = false := by rw [beq_eq_false_iff_ne]; omega
        by_cases hc1 : cap = 1
        · have hL1 : L.length = 1 := by omega
          subst hc1
          have kt := Lib.hid (fun w' => impl_SureWith (.slice (some ⟨g, 0, none⟩) 0 0) [] w' (Rd.nil _ _ _))
          rw [show SW [] = 0 by decide] at kt
          rw [hL1]
          generalize SW L = n at *
          clear f2 hok hL1 hl0 hL0
          go_wp2_with fail
          refine (kt.out _).mono ?_
          rintro e w6 ⟨rfl, hb6⟩
          have B6 := B5.trans (hb6.mono B5.size)
          clear B5 hb6
          go_wp2_with fail
          refine (k9.out _).mono ?_
          rintro e w7 ⟨rfl, hb7⟩
          go_wp2_with fail
          go_ret
          exact ⟨rfl, below_lit B6 (Nat.le_refl _) hb7⟩
        · obtain ⟨m, hm⟩ : ∃ m, L.length = m + 1 := ⟨L.length - 1, by omega⟩
          have ht := f2.out hL0
          rw [show L.length - 1 = m by omega] at ht
          have hcap1 : (1 : Int) ≤ (cap : Int) := by omega
          have kt := Lib.hid (impl_SureWith (.slice (some ⟨g, 1, none⟩) m (cap - 1)) _ _ (rd_part R5.out 1 m (cap - 1) (by omega)))
          generalize SW ((L.drop 1).take m) = n1 at *
          generalize SW L = n at *
          rw [hm]
          clear f2 hok hL0 R5 hl0
          go_wp2_with fail
          refine (kt.out).mono ?_
          rintro e w6 ⟨rfl, hb6⟩
          have B6 := B5.trans (hb6.mono B5.size)
          clear B5 hb6
          go_wp2_with fail
          refine (k9.out _).mono ?_
          rintro e w7 ⟨rfl, hb7⟩
          go_wp2_with fail
          go_ret
          exact ⟨rfl, below_lit B6 (Nat.le_refl _) hb7⟩
      · have hl0 : ((L.length : Int) == 0) = true := by rw [beq_iff_eq]; omega
        obtain ⟨a, ca, rfl, _, _⟩ := R5.out
        generalize SW L = n at *
        clear f2 hok HOW hL0
        go_wp2_with fail
        refine (k9.out _).mono ?_
        rintro e w7 ⟨rfl, hb7⟩
        go_wp2_with fail
        go_ret
        exact ⟨rfl, below_lit B5 (Nat.le_refl _) hb7⟩
end Go.Proofs.Ytpdijlpdkdhgpaa
