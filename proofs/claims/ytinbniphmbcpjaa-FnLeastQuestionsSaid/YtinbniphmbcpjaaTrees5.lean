/- The law FnLeastQuestions. -/
import Derived.Test.YtinbniphmbcpjaaProg
import Derived.Test.YtinbniphmbcpjaaTrees4
namespace Go.Proofs.Ytinbniphmbcpjaa
open Go.RowKit

theorem lq_spec (n : Nat) : ∀ (k m : Nat), (∀ j, j < m → 2 ^ j < n) → n ≤ 2 ^ (m + k) → n ≤ 2 ^ (lqFrom n m k) ∧ ∀ j, j < lqFrom n m k → 2 ^ j < n
  | 0, m, h, h2 => by rw [lqFrom]; exact ⟨h2, h⟩
  | k + 1, m, h, h2 => by
    rw [lqFrom]
    split
    · rename_i hlt
      refine lq_spec n k (m + 1) (fun j hj => ?_) (by rw [show m + 1 + k = m + (k + 1) by omega]; exact h2)
      by_cases e : j = m
      · subst e; exact hlt
      · exact h j (by omega)
    · rename_i hge
      exact ⟨by omega, h⟩
theorem LQ_is (n : Nat) (h : 1 ≤ n) (h2 : n ≤ 1000000) : ∃ m : Nat, LQ n = m ∧ n ≤ 2 ^ m ∧ (∀ j, j < m → 2 ^ j < n) ∧ m ≤ 20 := by
  have h3 := lq_spec n 20 0 (fun j hj => by omega) (by omega)
  refine ⟨_, LQ_nat n h h2, h3.1, h3.2, ?_⟩
  apply Classical.byContradiction
  intro hc
  have := h3.2 20 (by omega)
  omega
theorem LQ_uniq {n m m' : Nat} (h1 : n ≤ 2 ^ m) (h2 : ∀ j, j < m → 2 ^ j < n) (h3 : n ≤ 2 ^ m') (h4 : ∀ j, j < m' → 2 ^ j < n) : m = m' := by
  rcases Nat.lt_trichotomy m m' with h | h | h
  · have := h4 m h; omega
  · exact h
  · have := h2 m' h; omega
/-- Twice as many things need one question more. -/
theorem LQ_double (n : Int) (h : 1 ≤ n) (h2 : 2 * n ≤ 1000000) : LQ (2 * n) = LQ n + 1 := by
  obtain ⟨n, rfl⟩ := Int.eq_ofNat_of_zero_le (show 0 ≤ n by omega)
  obtain ⟨m, e1, a1, a2, _⟩ := LQ_is n (by omega) (by omega)
  obtain ⟨m', e2, b1, b2, _⟩ := LQ_is (2 * n) (by omega) (by omega)
  rw [show (2 * (n : Int)) = ((2 * n : Nat) : Int) by simp, e1, e2]
  have : m' = m + 1 := by
    refine LQ_uniq b1 b2 (by rw [Nat.pow_succ]; omega) (fun j hj => ?_)
    cases j with
    | zero => simp; omega
    | succ j => have := a2 j (by omega); rw [Nat.pow_succ]; omega
  subst this
  simp
theorem LQ_neg {n : Int} : LQ n < 0 ↔ LQ n = -1 := by
  by_cases h : 1 ≤ n ∧ n ≤ 1000000
  · obtain ⟨n, rfl⟩ := Int.eq_ofNat_of_zero_le (show 0 ≤ n by omega)
    rw [LQ_nat n (by omega) (by omega)]
    omega
  · rw [LQ_out n h]; omega

set_option maxHeartbeats 2000000 in
theorem law_FnLeastQuestions (a0 : Option Addr) (len0 cap0 : Nat) (z0 : List Int) (w : World) (w0 : IsRow .u8 w a0 len0 cap0 z0) :
    Calls Try.prog 7 #[.slice a0 len0 cap0] w fun e w' => e = .returned (.bool true) ∧ Below w.heap.size w w' := by
  have hc := Code8.of_row w0
  clear w0
  by_cases hl : 1048576 < len0
  · go_enter Try.func7, Try.ntmps7
    go_wp2_with fail
    go_ret
    exact ⟨rfl, Below.refl _ _⟩
  · have e1 : LQ 1 = 0 := by decide
    have k0 := Lib.hid (impl_LeastQuestions 1)
    rw [e1] at k0
    clear e1
    go_enter Try.func7, Try.ntmps7
    go_wp2_with fail
    refine (spec_DrawLeastQuestions _ _ _ _ hc).mono ?_
    rintro e w1 ⟨x, rfl, hx1, hx2, hb1⟩
    have k1 := Lib.hid (impl_LeastQuestions x)
    have k2 := Lib.hid (spec_LeastQuestions x)
    have k3 := Lib.hid (impl_LeastQuestions (2 * x))
    clear hc
    by_cases hin : 1 ≤ x ∧ x ≤ 1000000
    · obtain ⟨hin1, hin2⟩ := hin
      have hq0 : 0 ≤ LQ x := by
        obtain ⟨n, rfl⟩ := Int.eq_ofNat_of_zero_le (show 0 ≤ x by omega)
        rw [LQ_nat n (by omega) (by omega)]
        omega
      have hq1 : LQ x ≤ 20 := by
        obtain ⟨n, rfl⟩ := Int.eq_ofNat_of_zero_le (show 0 ≤ x by omega)
        obtain ⟨m, e1, _, _, h⟩ := LQ_is n (by omega) (by omega)
        omega
      by_cases h2 : 2 * x ≤ 1000000
      · have hd := LQ_double x hin1 h2
        rw [hd] at k3
        generalize LQ x = q at *
        clear hd
        go_wp2_with (first
          | (go_at_call 10; (with_reducible refine (k1.out _).mono ?_); rintro e w2 ⟨rfl, rfl⟩)
          | (go_at_call 9; (with_reducible refine (k2.out _).mono ?_); rintro e w2 ⟨rfl, rfl⟩)
          | (go_at_call 10; (with_reducible refine (k3.out _).mono ?_); rintro e w2 ⟨rfl, rfl⟩)
          | (go_at_call 10; (with_reducible refine (k0.out _).mono ?_); rintro e w2 ⟨rfl, rfl⟩))
        go_ret
        exact ⟨rfl, hb1⟩
      · have h2' : 1000000 < 2 * x := by omega
        generalize LQ x = q at *
        clear k3 h2
        go_wp2_with (first
          | (go_at_call 10; (with_reducible refine (k1.out _).mono ?_); rintro e w2 ⟨rfl, rfl⟩)
          | (go_at_call 9; (with_reducible refine (k2.out _).mono ?_); rintro e w2 ⟨rfl, rfl⟩)
          | (go_at_call 10; (with_reducible refine (k0.out _).mono ?_); rintro e w2 ⟨rfl, rfl⟩))
        go_ret
        exact ⟨rfl, hb1⟩
    · rw [LQ_out x hin] at k1 k2
      clear k3 hin
      go_wp2_with (first
        | (go_at_call 10; (with_reducible refine (k1.out _).mono ?_); rintro e w2 ⟨rfl, rfl⟩)
        | (go_at_call 9; (with_reducible refine (k2.out _).mono ?_); rintro e w2 ⟨rfl, rfl⟩)
        | (go_at_call 18; refine (alive_any _).mono ?_; rintro e w7 ⟨rfl, rfl⟩))
      go_ret
      exact ⟨rfl, hb1⟩
end Go.Proofs.Ytinbniphmbcpjaa
