import Derived.Test.YtpmbioeemkioaaaProg
import Derived.Test.YtpmbioeemkioaaaFloors2
namespace Go.Proofs.Ytpmbioeemkioaaa
open Go.RowKit

/-- the first number of drops from d on, of n, that is enough -/
def dnFrom (f c d : Nat) : Nat → Int
  | 0 => -1
  | n + 1 => if f < Ap c d then (d : Int) else dnFrom f c (d + 1) n

def DN (f c : Int) : Int := if (0 ≤ f ∧ f ≤ 9999) ∧ (0 ≤ c ∧ c ≤ 8) then dnFrom f.toNat c.toNat 0 15 else -1
theorem DN_out (f c : Int) (h : ¬ ((0 ≤ f ∧ f ≤ 9999) ∧ (0 ≤ c ∧ c ≤ 8))) : DN f c = -1 := by unfold DN; rw [if_neg h]
theorem DN_nat (f c : Nat) (h : f ≤ 9999) (hc : c ≤ 8) : DN f c = dnFrom f c 0 15 := by unfold DN; rw [if_pos (by omega)]; simp

theorem DN_cases (f c : Int) : (f < 0 ∨ 9999 < f) ∨ ((0 ≤ f ∧ f ≤ 9999) ∧ (c < 0 ∨ 8 < c)) ∨ ((0 ≤ f ∧ f ≤ 9999) ∧ (0 ≤ c ∧ c ≤ 8)) := by omega

set_option maxHeartbeats 800000 in
theorem impl_DropsNeeded (f c : Int) (w : World) : Calls Try.prog 20 #[.int .i64 f, .int .i64 c] w fun e w' => e = .returned (.int .i64 (DN f c)) ∧ Below w.heap.size w w' := by
  rcases DN_cases f c with h | ⟨h1, h⟩ | ⟨h1, h2⟩
  iterate 2
    · go_enter Try.func20, Try.ntmps20
      go_wp2_with (first
        | (go_at_call 39; refine (in_yes _ _ _ _ (by omega) (by omega)).mono ?_; rintro e w' ⟨rfl, rfl⟩)
        | (go_at_call 39; refine (in_no _ _ _ _ (by omega)).mono ?_; rintro e w' ⟨rfl, rfl⟩))
      go_ret
      exact ⟨by rw [DN_out _ _ (by omega)]; rfl, Below.refl _ _⟩
  · obtain ⟨f, rfl⟩ := Int.eq_ofNat_of_zero_le h1.1
    obtain ⟨c, rfl⟩ := Int.eq_ofNat_of_zero_le h2.1
    have hfin := DN_nat f c (by omega) (by omega)
    generalize DN f c = R at *
    have HF := Lib.hid hfin
    clear hfin
    go_enter Try.func20, Try.ntmps20
    go_wp2_with (first
      | (go_at_call 39; refine (in_yes _ _ _ _ (by omega) (by omega)).mono ?_; rintro e w' ⟨rfl, rfl⟩))
    go_loopw [14] (fun v wr => ∃ d : Nat, d ≤ 15 ∧ v = .int .i64 d ∧ Hid (dnFrom f c d (15 - d) = R) ∧ Below w.heap.size w wr) (fun v _ => 15 - (intOf v).toNat)
    case atStart => exact ⟨0, by omega, rfl, HF.out.symm, Below.refl _ _⟩
    case round =>
      obtain ⟨d, hd, rfl, hR, hb⟩ := hrel
      by_cases hlt : d < 15
      · have hA := Ap_small c d (by omega)
        obtain ⟨n, hn⟩ : ∃ n, 15 - d = n + 1 := ⟨15 - d - 1, by omega⟩
        have hn' : 15 - (d + 1) = n := by omega
        by_cases hg : f < Ap c d
        · have hR2 : Hid (R = (d : Int)) := by have := hR.out; rw [hn, dnFrom, if_pos hg] at this; exact this.symm
          clear hR hn hn'
          go_wp2_with (first | (go_at_call 40; (with_reducible refine (apart_any c d (by omega) (by omega) _).mono ?_); rintro e w1 ⟨rfl, hb1⟩))
          go_ret
          exact ⟨ret_int hR2.out.symm, hb.trans (hb1.mono hb.size)⟩
        · have hR2 : Hid (dnFrom f c (d + 1) (15 - (d + 1)) = R) := by have := hR.out; rw [hn, dnFrom, if_neg hg] at this; rw [hn']; exact this
          clear hR hn hn'
          go_wp2_with (first | (go_at_call 40; (with_reducible refine (apart_any c d (by omega) (by omega) _).mono ?_); rintro e w1 ⟨rfl, hb1⟩))
          go_roundw
          case rel => exact ⟨d + 1, by omega, by go_num, hR2, hb.trans (hb1.mono hb.size)⟩
          case measure => simp [intOf]; omega
      · have hR2 : Hid (R = -1) := by have := hR.out; rw [show 15 - d = 0 by omega, dnFrom] at this; exact this.symm
        clear hR
        go_wp2
        go_ret
        exact ⟨ret_int hR2.out.symm, hb⟩

set_option maxHeartbeats 800000 in
theorem spec_DropsNeeded (f c : Int) (w : World) : Calls Try.prog 19 #[.int .i64 f, .int .i64 c] w fun e w' => e = .returned (.int .i64 (DN f c)) ∧ Below w.heap.size w w' := by
  rcases DN_cases f c with h | ⟨h1, h⟩ | ⟨h1, h2⟩
  iterate 2
    · go_enter Try.func19, Try.ntmps19
      go_wp2_with (first
        | (go_at_call 38; refine (l1In_yes _ _ _ _ (by omega) (by omega)).mono ?_; rintro e w' ⟨rfl, rfl⟩)
        | (go_at_call 38; refine (l1In_no _ _ _ _ (by omega)).mono ?_; rintro e w' ⟨rfl, rfl⟩))
      go_ret
      exact ⟨by rw [DN_out _ _ (by omega)]; rfl, Below.refl _ _⟩
  · obtain ⟨f, rfl⟩ := Int.eq_ofNat_of_zero_le h1.1
    obtain ⟨c, rfl⟩ := Int.eq_ofNat_of_zero_le h2.1
    have hfin := DN_nat f c (by omega) (by omega)
    generalize DN f c = R at *
    have HF := Lib.hid hfin
    clear hfin
    go_enter Try.func19, Try.ntmps19
    go_wp2_with (first
      | (go_at_call 38; refine (l1In_yes _ _ _ _ (by omega) (by omega)).mono ?_; rintro e w' ⟨rfl, rfl⟩))
    go_loopw [5] (fun v wr => ∃ d : Nat, d ≤ 15 ∧ v = .int .i64 d ∧ Hid (dnFrom f c d (15 - d) = R) ∧ Below w.heap.size w wr) (fun v _ => 15 - (intOf v).toNat)
    case atStart => exact ⟨0, by omega, rfl, HF.out.symm, Below.refl _ _⟩
    case round =>
      obtain ⟨d, hd, rfl, hR, hb⟩ := hrel
      by_cases hlt : d < 15
      · have hA := Ap_small c d (by omega)
        obtain ⟨n, hn⟩ : ∃ n, 15 - d = n + 1 := ⟨15 - d - 1, by omega⟩
        have hn' : 15 - (d + 1) = n := by omega
        by_cases hg : f < Ap c d
        · have hR2 : Hid (R = (d : Int)) := by have := hR.out; rw [hn, dnFrom, if_pos hg] at this; exact this.symm
          clear hR hn hn'
          go_wp2_with (first | (go_at_call 15; (with_reducible refine (specTA_any c d (by omega) (by omega) _).mono ?_); rintro e w1 ⟨rfl, hb1⟩))
          go_ret
          exact ⟨ret_int hR2.out.symm, hb.trans (hb1.mono hb.size)⟩
        · have hR2 : Hid (dnFrom f c (d + 1) (15 - (d + 1)) = R) := by have := hR.out; rw [hn, dnFrom, if_neg hg] at this; rw [hn']; exact this
          clear hR hn hn'
          go_wp2_with (first | (go_at_call 15; (with_reducible refine (specTA_any c d (by omega) (by omega) _).mono ?_); rintro e w1 ⟨rfl, hb1⟩))
          go_roundw
          case rel => exact ⟨d + 1, by omega, by go_num, hR2, hb.trans (hb1.mono hb.size)⟩
          case measure => simp [intOf]; omega
      · have hR2 : Hid (R = -1) := by have := hR.out; rw [show 15 - d = 0 by omega, dnFrom] at this; exact this.symm
        clear hR
        go_wp2
        go_ret
        exact ⟨ret_int hR2.out.symm, hb⟩

theorem law_FnExactNextDrop (a0 a1 a2 a3 : Int) (w : World) (_ : (Lit.int .i64 a0).wf = true) (_ : (Lit.int .i64 a1).wf = true) (_ : (Lit.int .i64 a2).wf = true) (_ : (Lit.int .i64 a3).wf = true) :
    Calls Try.prog 4 #[.int .i64 a0, .int .i64 a1, .int .i64 a2, .int .i64 a3] w fun e w' => e = .returned (.bool true) ∧ Below w.heap.size w w' := by
  go_enter Try.func4, Try.ntmps4
  go_wp2_with (first
    | (go_at_call 17; refine (spec_NextDrop _ _ _ _ _).mono ?_; rintro e w1 ⟨rfl, hb1⟩)
    | (go_at_call 18; refine (impl_NextDrop _ _ _ _ _).mono ?_; rintro e w2 ⟨rfl, hb2⟩))
  go_ret
  exact ⟨rfl, hb1.trans (hb2.mono hb1.size)⟩

theorem law_FnExactDropsNeeded (a0 a1 : Int) (w : World) (_ : (Lit.int .i64 a0).wf = true) (_ : (Lit.int .i64 a1).wf = true) :
    Calls Try.prog 5 #[.int .i64 a0, .int .i64 a1] w fun e w' => e = .returned (.bool true) ∧ Below w.heap.size w w' := by
  go_enter Try.func5, Try.ntmps5
  go_wp2_with (first
    | (go_at_call 19; refine (spec_DropsNeeded _ _ _).mono ?_; rintro e w1 ⟨rfl, hb1⟩)
    | (go_at_call 20; refine (impl_DropsNeeded _ _ _).mono ?_; rintro e w2 ⟨rfl, hb2⟩))
  go_ret
  exact ⟨rfl, hb1.trans (hb2.mono hb1.size)⟩
end Go.Proofs.Ytpmbioeemkioaaa
