/- impl.LeastQuestions, and the fixed answers 'alive'. -/
import Derived.Test.YtkkjgcpkimjfkaaProg
import Derived.Test.YtkkjgcpkimjfkaaBase
namespace Go.Proofs.Ytkkjgcpkimjfkaa
open Go.RowKit

/-- the first m of k from m on for which 2 to its power is at least n -/
def lqFrom (n m : Nat) : Nat → Nat
  | 0 => m
  | k + 1 => if 2 ^ m < n then lqFrom n (m + 1) k else m
def LQ (n : Int) : Int := if 1 ≤ n ∧ n ≤ 1000000 then (lqFrom n.toNat 0 20 : Int) else -1
theorem LQ_out (n : Int) (h : ¬ (1 ≤ n ∧ n ≤ 1000000)) : LQ n = -1 := by unfold LQ; rw [if_neg h]
theorem LQ_nat (n : Nat) (h : 1 ≤ n) (h2 : n ≤ 1000000) : LQ n = lqFrom n 0 20 := by unfold LQ; rw [if_pos (by omega)]; simp

set_option maxHeartbeats 800000 in
theorem impl_LeastQuestions (n : Int) (w : World) : Calls Try.prog 60 #[.int .i64 n] w fun e w' => e = .returned (.int .i64 (LQ n)) ∧ w = w' := by
  by_cases h : 1 ≤ n ∧ n ≤ 1000000
  · obtain ⟨n, rfl⟩ := Int.eq_ofNat_of_zero_le (show 0 ≤ n by omega)
    have hfin := LQ_nat n (by omega) (by omega)
    generalize LQ n = R at *
    have HF := Lib.hid hfin
    clear hfin
    obtain ⟨h1, h2⟩ := h
    go_enter Try.func60, Try.ntmps60
    go_wp2_with (first
      | (go_at_call 63; refine (in_yes _ _ _ _ (by omega) (by omega)).mono ?_; rintro e w' ⟨rfl, rfl⟩))
    go_loop [3] (fun v => ∃ m : Nat, m ≤ 20 ∧ v = .int .i64 m ∧ Hid ((lqFrom n m (20 - m) : Int) = R)) (fun v => 20 - (intOf v).toNat)
    case atStart => exact ⟨0, by omega, rfl, HF.out.symm⟩
    case round =>
      obtain ⟨m, hm, rfl, hR⟩ := hrel
      have hm0 : (0 : Int) ≤ (m : Int) := by omega
      have hm1 : (m : Int) < 64 := by omega
      obtain ⟨P, hP⟩ : ∃ P : Nat, P = 2 ^ m := ⟨_, rfl⟩
      have hP2 : P ≤ 1048576 := by
        have : 2 ^ m ≤ 2 ^ 20 := Nat.pow_le_pow_right (by omega) hm
        omega
      have hPc : ((2 : Int) ^ m) = (P : Int) := by rw [hP]; simp
      have hw : wrap64 ((2 : Int) ^ m) = (P : Int) := by rw [hPc]; exact IntWalk.wrap64_in _ ⟨by omega, by omega⟩
      clear hPc
      have HP := Lib.hid hP
      clear hP
      by_cases hlt : P < n
      · have hm2 : m < 20 := by
          apply Classical.byContradiction; intro hc
          have : m = 20 := by omega
          have hp := HP.out
          rw [this] at hp
          omega
        have hR2 : Hid ((lqFrom n (m + 1) (20 - (m + 1)) : Int) = R) := by
          have := hR.out
          rw [show 20 - m = (20 - (m + 1)) + 1 by omega, lqFrom, if_pos (by rw [← HP.out]; exact hlt)] at this
          exact this
        clear hR
        go_wp2_with fail
        go_round
        case rel => exact ⟨m + 1, by omega, by go_num, hR2⟩
        case measure => simp [intOf]; omega
      · have hR2 : Hid ((m : Int) = R) := by
          have := hR.out
          cases hk : 20 - m with
          | zero => rw [hk, lqFrom] at this; exact this
          | succ k => rw [hk, lqFrom, if_neg (by rw [← HP.out]; exact hlt)] at this; exact this
        clear hR
        go_wp2_with fail
        go_ret
        exact ⟨ret_int hR2.out, rfl⟩
  · rw [LQ_out n h]
    go_enter Try.func60, Try.ntmps60
    go_wp2_with (first
      | (go_at_call 63; refine (in_no _ _ _ _ (by omega)).mono ?_; rintro e w' ⟨rfl, rfl⟩))
    go_ret
    exact ⟨rfl, rfl⟩

theorem alive_any (w : World) : Calls Try.prog 33 #[] w fun e w' => e = .returned (.bool true) ∧ w = w' := by
  have e8 : LQ 8 = 3 := by decide
  have e9 : LQ 9 = 4 := by decide
  have c8 := Lib.hid (impl_LeastQuestions 8)
  have c9 := Lib.hid (impl_LeastQuestions 9)
  rw [e8] at c8
  rw [e9] at c9
  clear e8 e9
  go_enter Try.func33, Try.ntmps33
  go_wp2_with (first
    | (go_at_call 60; (with_reducible refine (c8.out _).mono ?_); rintro e w' ⟨rfl, rfl⟩)
    | (go_at_call 60; (with_reducible refine (c9.out _).mono ?_); rintro e w' ⟨rfl, rfl⟩))
  go_ret
  exact ⟨rfl, rfl⟩
end Go.Proofs.Ytkkjgcpkimjfkaa
