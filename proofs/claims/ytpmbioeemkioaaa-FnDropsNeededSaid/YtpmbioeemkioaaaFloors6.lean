/- The laws of chapter 2 over drawn arguments: told apart, next drop, drops needed. -/
import Derived.Test.YtpmbioeemkioaaaProg
import Derived.Test.YtpmbioeemkioaaaFloors5
import Derived.Test.YtpmbioeemkioaaaDraw
import Derived.Test.YtpmbioeemkioaaaAlive
namespace Go.Proofs.Ytpmbioeemkioaaa
open Go.RowKit

theorem impl_TA {c d v : Int} (h : TA c d = v) (w : World) : Calls Try.prog 16 #[.int .i64 c, .int .i64 d] w fun e w' => e = .returned (.int .i64 v) ∧ Below w.heap.size w w' := by
  rw [← h]; exact impl_ToldApart c d w
theorem spec_TA {c d v : Int} (h : TA c d = v) (w : World) : Calls Try.prog 15 #[.int .i64 c, .int .i64 d] w fun e w' => e = .returned (.int .i64 v) ∧ Below w.heap.size w w' := by
  rw [← h]; exact spec_ToldApart c d w

theorem Ap_pow (d : Nat) : ∀ c, d ≤ c → Ap c d = 2 ^ d := by
  induction d with
  | zero => intro c _; rw [Ap_zero]
  | succ d ih => intro c hc; cases c with
    | zero => omega
    | succ c => rw [Ap, ih c (by omega), ih (c + 1) (by omega), Nat.pow_succ]; omega
theorem Ap_one (d : Nat) : Ap 1 d = d + 1 := by
  induction d with
  | zero => rw [Ap_zero]
  | succ d ih => rw [Ap, ih, Ap, Nat.add_comm]

def DrewTwo (lo1 hi1 lo2 hi2 : Int) (w : World) (e : Ending) (w' : World) : Prop :=
  ∃ c d : Int, e = .returned (.tuple #[.int .i64 c, .int .i64 d]) ∧ (lo1 ≤ c ∧ c ≤ hi1) ∧ (lo2 ≤ d ∧ d ≤ hi2) ∧ Below w.heap.size w w'

theorem below_pick {w w1 w2 : World} {R : Nat} (h : Below w.heap.size w w1) (g : w1.grownBy w2 (some R)) (hR : w.heap.size ≤ R) : Below w.heap.size w w2 :=
  h.grown g h.size (fun k hk => by cases hk; exact hR)

set_option maxHeartbeats 1000000 in
theorem spec_DrawToldApart (a : Option Addr) (len cap : Nat) (w : World) (h : Code8 w a len cap) :
    Calls Try.prog 30 #[.slice a len cap] w (DrewTwo (-1) 9 (-1) 15 w) := by
  go_enter Try.func30, Try.ntmps30
  go_wp2_with fail
  refine (open_any a len cap _ h).mono ?_
  rintro e w1 ⟨rfl, hr1, hb1⟩
  go_wp2_with fail
  refine (pick_any _ _ _ (by omega) (by omega) (by omega) _ hr1).mono ?_
  rintro e w2 ⟨v2, rfl, l2, u2, hr2, hg2⟩
  go_wp2_with fail
  refine (pick_any _ _ _ (by omega) (by omega) (by omega) _ hr2).mono ?_
  rintro e w3 ⟨v3, rfl, l3, u3, hr3, hg3⟩
  go_wp2_with fail
  refine (pick_any _ _ _ (by omega) (by omega) (by omega) _ hr3).mono ?_
  rintro e w4 ⟨v4, rfl, l4, u4, hr4, hg4⟩
  go_wp2_with fail
  refine (pick_any _ _ _ (by omega) (by omega) (by omega) _ hr4).mono ?_
  rintro e w5 ⟨v5, rfl, l5, u5, hr5, hg5⟩
  go_wp2_with fail
  go_ret2
  exact ⟨_, _, rfl, by omega, by omega, below_pick (below_pick (below_pick (below_pick hb1 hg2 (Nat.le_refl _)) hg3 (Nat.le_refl _)) hg4 (Nat.le_refl _)) hg5 (Nat.le_refl _)⟩

set_option maxHeartbeats 4000000 in
theorem law_FnToldApart (a0 : Option Addr) (len0 cap0 : Nat) (z0 : List Int) (w : World) (w0 : IsRow .u8 w a0 len0 cap0 z0) :
    Calls Try.prog 9 #[.slice a0 len0 cap0] w fun e w' => e = .returned (.bool true) ∧ Below w.heap.size w w' := by
  have hc := Code8.of_row w0
  clear w0
  by_cases hl : 1048576 < len0
  · go_enter Try.func9, Try.ntmps9
    go_wp2_with fail
    go_ret
    exact ⟨rfl, Below.refl _ _⟩
  · go_enter Try.func9, Try.ntmps9
    go_wp2_with fail
    refine (spec_DrawToldApart _ _ _ _ hc).mono ?_
    rintro e w1 ⟨c, d, rfl, ⟨hc1, hc2⟩, ⟨hd1, hd2⟩, hb1⟩
    clear hc
    by_cases hin : (0 ≤ c ∧ c ≤ 8) ∧ (0 ≤ d ∧ d ≤ 14)
    · obtain ⟨⟨i1, i2⟩, i3, i4⟩ := hin
      obtain ⟨c, rfl⟩ := Int.eq_ofNat_of_zero_le i1
      obtain ⟨d, rfl⟩ := Int.eq_ofNat_of_zero_le i3
      have hA1 := Ap_pos c d
      have hA2 := Ap_small c d (by omega)
      have h0 := TA_in c d (by omega) (by omega)
      have k1 := Lib.hid (impl_TA h0)
      have k2 := Lib.hid (spec_TA h0)
      by_cases hz : c = 0
      · have hone : Ap c d = 1 := by rw [hz, Ap]
        rw [hone] at k1 k2
        have hz' : ((c : Int) == 0) = true := by rw [hz]; rfl
        have hz2 : ¬ (0 : Int) < (c : Int) := by omega
        clear h0 hone hA1 hA2 hz
        go_wp2_with (first
          | (go_at_call 16; (with_reducible refine (k1.out _).mono ?_); rintro e w2 ⟨rfl, hb2⟩)
          | (go_at_call 15; (with_reducible refine (k2.out _).mono ?_); rintro e w3 ⟨rfl, hb3⟩))
        go_ret
        exact ⟨rfl, hb1.trans ((hb2.mono hb1.size).trans (hb3.mono (Nat.le_trans hb1.size hb2.size)))⟩
      · have hz' : ((c : Int) == 0) = false := by simp; omega
        have hz2 : 0 < c := by omega
        by_cases hd : d = 14
        · have hd' : ((d : Int) == 14) = true := by rw [hd]; rfl
          clear h0 hz hd
          generalize Ap c d = A at *
          go_wp2_with (first
            | (go_at_call 16; (with_reducible refine (k1.out _).mono ?_); rintro e w2 ⟨rfl, hb2⟩)
            | (go_at_call 15; (with_reducible refine (k2.out _).mono ?_); rintro e w3 ⟨rfl, hb3⟩))
          go_ret
          exact ⟨rfl, hb1.trans ((hb2.mono hb1.size).trans (hb3.mono (Nat.le_trans hb1.size hb2.size)))⟩
        · have hd' : ((d : Int) == 14) = false := by simp; omega
          obtain ⟨c, rfl⟩ : ∃ k, c = k + 1 := ⟨c - 1, by omega⟩
          have hB := Ap_small c d (by omega)
          have q1 := Lib.hid (impl_TA (show TA 1 d = (d : Int) + 1 by have := TA_in 1 d (by omega) (by omega); rw [Ap_one] at this; exact this))
          have q2 := Lib.hid (impl_TA (show TA ((c : Int) + 1) ((d : Int) + 1) = (Ap (c + 1) d : Int) + (Ap c d : Int) by
            have := TA_in (c + 1) (d + 1) (by omega) (by omega); rw [show ((c + 1 : Nat) : Int) = (c : Int) + 1 by omega, show ((d + 1 : Nat) : Int) = (d : Int) + 1 by omega] at this; rw [this, Ap]; omega))
          have q3 := Lib.hid (impl_TA (TA_in c d (by omega) (by omega)))
          have k1' : Hid (∀ w : World, Calls Try.prog 16 #[.int .i64 ((c : Int) + 1), .int .i64 d] w fun e w' => e = .returned (.int .i64 (Ap (c + 1) d)) ∧ Below w.heap.size w w') := k1
          have k2' : Hid (∀ w : World, Calls Try.prog 15 #[.int .i64 ((c : Int) + 1), .int .i64 d] w fun e w' => e = .returned (.int .i64 (Ap (c + 1) d)) ∧ Below w.heap.size w w') := k2
          have hz3 : ((c : Int) + 1 == 0) = false := by simp; omega
          clear h0 k1 k2 hz hd
          by_cases hcd : c + 1 < d
          · have hcd' : (c : Int) + 1 < (d : Int) := by omega
            generalize Ap (c + 1) d = A at *
            generalize Ap c d = B at *
            go_wp2_with (first
              | (go_at_call 16; (with_reducible refine (k1'.out _).mono ?_); rintro e w2 ⟨rfl, hb2⟩)
              | (go_at_call 15; (with_reducible refine (k2'.out _).mono ?_); rintro e w3 ⟨rfl, hb3⟩)
              | (go_at_call 16; (with_reducible refine (q1.out _).mono ?_); rintro e w4 ⟨rfl, hb4⟩)
              | (go_at_call 16; (with_reducible refine (q2.out _).mono ?_); rintro e w5 ⟨rfl, hb5⟩)
              | (go_at_call 16; (with_reducible refine (q3.out _).mono ?_); rintro e w6 ⟨rfl, hb6⟩))
            go_ret
            have s1 := hb1.size
            have s2 := hb2.size
            have s3 := hb3.size
            have s4 := hb4.size
            have s5 := hb5.size
            exact ⟨rfl, hb1.trans ((hb2.mono s1).trans ((hb3.mono (by omega)).trans ((hb4.mono (by omega)).trans ((hb5.mono (by omega)).trans (hb6.mono (by omega))))))⟩
          · have hcd' : ¬ (c : Int) + 1 < (d : Int) := by omega
            have hp : wrap64 ((2 : Int) ^ d) = (Ap (c + 1) d : Int) := by
              have e1 : ((2 : Int) ^ d) = ((Ap (c + 1) d : Nat) : Int) := by rw [Ap_pow d (c + 1) (by omega)]; simp
              rw [e1]
              exact IntWalk.wrap64_in _ ⟨by omega, by omega⟩
            have hm0 : (0 : Int) ≤ (d : Int) := by omega
            have hm1 : (d : Int) < 64 := by omega
            generalize Ap (c + 1) d = A at *
            generalize Ap c d = B at *
            go_wp2_with (first
              | (go_at_call 16; (with_reducible refine (k1'.out _).mono ?_); rintro e w2 ⟨rfl, hb2⟩)
              | (go_at_call 15; (with_reducible refine (k2'.out _).mono ?_); rintro e w3 ⟨rfl, hb3⟩)
              | (go_at_call 16; (with_reducible refine (q1.out _).mono ?_); rintro e w4 ⟨rfl, hb4⟩)
              | (go_at_call 16; (with_reducible refine (q2.out _).mono ?_); rintro e w5 ⟨rfl, hb5⟩)
              | (go_at_call 16; (with_reducible refine (q3.out _).mono ?_); rintro e w6 ⟨rfl, hb6⟩))
            go_ret
            have s1 := hb1.size
            have s2 := hb2.size
            have s3 := hb3.size
            have s4 := hb4.size
            have s5 := hb5.size
            exact ⟨rfl, hb1.trans ((hb2.mono s1).trans ((hb3.mono (by omega)).trans ((hb4.mono (by omega)).trans ((hb5.mono (by omega)).trans (hb6.mono (by omega))))))⟩
    · have h0 := TA_out c d (by omega)
      have k1 := Lib.hid (impl_TA h0)
      have k2 := Lib.hid (spec_TA h0)
      clear h0 hin
      go_wp2_with (first
        | (go_at_call 16; (with_reducible refine (k1.out _).mono ?_); rintro e w2 ⟨rfl, hb2⟩)
        | (go_at_call 15; (with_reducible refine (k2.out _).mono ?_); rintro e w3 ⟨rfl, hb3⟩)
        | (go_at_call 31; refine (alive_any _).mono ?_; rintro e w4 ⟨rfl, rfl⟩))
      go_ret
      exact ⟨rfl, hb1.trans ((hb2.mono hb1.size).trans (hb3.mono (Nat.le_trans hb1.size hb2.size)))⟩
end Go.Proofs.Ytpmbioeemkioaaa
