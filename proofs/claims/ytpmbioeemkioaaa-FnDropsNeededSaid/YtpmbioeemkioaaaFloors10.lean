/- The law FnDropsNeeded. -/
import Derived.Test.YtpmbioeemkioaaaProg
import Derived.Test.YtpmbioeemkioaaaFloors9
namespace Go.Proofs.Ytpmbioeemkioaaa
open Go.RowKit

theorem impl_DN {f c v : Int} (e : DN f c = v) (w : World) : Calls Try.prog 20 #[.int .i64 f, .int .i64 c] w fun e w' => e = .returned (.int .i64 v) ∧ Below w.heap.size w w' := by
  rw [← e]; exact impl_DropsNeeded f c w
theorem spec_DN {f c v : Int} (e : DN f c = v) (w : World) : Calls Try.prog 19 #[.int .i64 f, .int .i64 c] w fun e w' => e = .returned (.int .i64 v) ∧ Below w.heap.size w w' := by
  rw [← e]; exact spec_DropsNeeded f c w

/-- What is found is enough, and one less is too little. -/
theorem dnFrom_law (f c : Nat) : ∀ n d, (∀ m, m < d → Ap c m ≤ f) → dnFrom f c d n = -1 ∨ ∃ k : Nat, dnFrom f c d n = k ∧ f < Ap c k ∧ k < d + n ∧ ∀ m, m < k → Ap c m ≤ f := by
  intro n
  induction n with
  | zero => intro d _; left; rfl
  | succ n ih =>
    intro d h
    by_cases hd : f < Ap c d
    · right; exact ⟨d, by rw [dnFrom, if_pos hd], hd, by omega, h⟩
    · rw [dnFrom, if_neg hd]
      rcases ih (d + 1) (fun m hm => by rcases Nat.lt_succ_iff_lt_or_eq.1 hm with h1 | h1; · exact h m h1
                                        · rw [h1]; omega) with h1 | ⟨k, h1, h2, h3, h4⟩
      · left; exact h1
      · right; exact ⟨k, h1, h2, by omega, h4⟩

theorem Ap_ge (m : Nat) : ∀ c, 1 ≤ c → m + 1 ≤ Ap c m := by
  induction m with
  | zero => intro c _; rw [Ap_zero]; omega
  | succ m ih =>
    intro c hc
    cases c with
    | zero => omega
    | succ c => have h1 := ih (c + 1) (by omega); have h2 := Ap_pos c m; rw [Ap]; omega

set_option maxHeartbeats 4000000 in
theorem law_FnDropsNeeded (a0 : Option Addr) (len0 cap0 : Nat) (z0 : List Int) (w : World) (w0 : IsRow .u8 w a0 len0 cap0 z0) :
    Calls Try.prog 11 #[.slice a0 len0 cap0] w fun e w' => e = .returned (.bool true) ∧ Below w.heap.size w w' := by
  have hc := Code8.of_row w0
  clear w0
  by_cases hl : 1048576 < len0
  · go_enter Try.func11, Try.ntmps11
    go_wp2_with fail
    go_ret
    exact ⟨rfl, Below.refl _ _⟩
  · go_enter Try.func11, Try.ntmps11
    go_wp2_with fail
    refine (spec_DrawDropsNeeded _ _ _ _ hc).mono ?_
    rintro e w1 ⟨f, c, rfl, ⟨r1, r2⟩, ⟨r3, r4⟩, hb1⟩
    clear hc
    have hcases : DN f c = -1 ∨ ∃ k f' c' : Nat, f = f' ∧ c = c' ∧ DN f c = k ∧ f' < Ap c' k ∧ k < 15 ∧ (∀ m, m < k → Ap c' m ≤ f') := by
      by_cases h : (0 ≤ f ∧ f ≤ 9999) ∧ (0 ≤ c ∧ c ≤ 8)
      · obtain ⟨h1, h2⟩ := h
        obtain ⟨f, rfl⟩ := Int.eq_ofNat_of_zero_le h1.1
        obtain ⟨c, rfl⟩ := Int.eq_ofNat_of_zero_le h2.1
        have e := DN_nat f c (by omega) (by omega)
        rcases dnFrom_law f c 15 0 (fun m hm => by omega) with h3 | ⟨k, h3, h4, h5, h6⟩
        · left; rw [e]; exact h3
        · right; exact ⟨k, f, c, rfl, rfl, by rw [e]; exact h3, h4, by omega, h6⟩
      · left; exact DN_out f c h
    rcases hcases with h0 | ⟨k, f, c, rfl, rfl, h0, q1, q2, q3⟩
    · have k1 := Lib.hid (impl_DN h0)
      have k2 := Lib.hid (spec_DN h0)
      clear h0
      go_wp2_with (first
        | (go_at_call 20; (with_reducible refine (k1.out _).mono ?_); rintro e w2 ⟨rfl, hb2⟩)
        | (go_at_call 19; (with_reducible refine (k2.out _).mono ?_); rintro e w3 ⟨rfl, hb3⟩)
        | (go_at_call 31; refine (alive_any _).mono ?_; rintro e w4 ⟨rfl, rfl⟩))
      go_ret
      exact ⟨rfl, hb1.trans ((hb2.mono hb1.size).trans (hb3.mono (Nat.le_trans hb1.size hb2.size)))⟩
    · have k1 := Lib.hid (impl_DN h0)
      have k2 := Lib.hid (spec_DN h0)
      have a1 := Lib.hid (impl_TA (TA_in c k (by omega) (by omega)))
      have hA := Ap_small c k (by omega)
      have hQ1 : (f : Int) < (Ap c k : Int) := by omega
      cases k with
      | zero =>
        clear h0 q3
        generalize Ap c 0 = A at *
        have a1' : Hid (∀ w : World, Calls Try.prog 16 #[.int .i64 c, .int .i64 0] w fun e w' => e = .returned (.int .i64 A) ∧ Below w.heap.size w w') := a1
        have k1' : Hid (∀ w : World, Calls Try.prog 20 #[.int .i64 f, .int .i64 c] w fun e w' => e = .returned (.int .i64 0) ∧ Below w.heap.size w w') := k1
        have k2' : Hid (∀ w : World, Calls Try.prog 19 #[.int .i64 f, .int .i64 c] w fun e w' => e = .returned (.int .i64 0) ∧ Below w.heap.size w w') := k2
        clear a1 k1 k2
        go_wp2_with (first
          | (go_at_call 20; (with_reducible refine (k1'.out _).mono ?_); rintro e w2 ⟨rfl, hb2⟩)
          | (go_at_call 19; (with_reducible refine (k2'.out _).mono ?_); rintro e w3 ⟨rfl, hb3⟩)
          | (go_at_call 16; (with_reducible refine (a1'.out _).mono ?_); rintro e w4 ⟨rfl, hb4⟩))
        go_ret
        have s1 := hb1.size
        have s2 := hb2.size
        have s3 := hb3.size
        exact ⟨rfl, hb1.trans ((hb2.mono s1).trans ((hb3.mono (by omega)).trans (hb4.mono (by omega))))⟩
      | succ m =>
        have q4 := q3 m (by omega)
        have hle : m + 1 ≤ f := by
          by_cases hc1 : 1 ≤ c
          · have := Ap_ge m c hc1; omega
          · have hz : c = 0 := by omega
            rw [hz, Ap] at q1
            rw [hz] at q4
            have : Ap 0 m = 1 := by rw [Ap]
            omega
        have a2 := Lib.hid (impl_TA (TA_in c m (by omega) (by omega)))
        have hB := Ap_small c m (by omega)
        have hQ2 : (Ap c m : Int) ≤ (f : Int) := by omega
        clear h0 q3
        generalize Ap c (m + 1) = A at *
        generalize Ap c m = B at *
        have a1' : Hid (∀ w : World, Calls Try.prog 16 #[.int .i64 c, .int .i64 ((m : Int) + 1)] w fun e w' => e = .returned (.int .i64 A) ∧ Below w.heap.size w w') := a1
        have k1' : Hid (∀ w : World, Calls Try.prog 20 #[.int .i64 f, .int .i64 c] w fun e w' => e = .returned (.int .i64 ((m : Int) + 1)) ∧ Below w.heap.size w w') := k1
        have k2' : Hid (∀ w : World, Calls Try.prog 19 #[.int .i64 f, .int .i64 c] w fun e w' => e = .returned (.int .i64 ((m : Int) + 1)) ∧ Below w.heap.size w w') := k2
        have hm0 : ((m : Int) + 1 == 0) = false := by simp; omega
        have hle' : (m : Int) + 1 ≤ (f : Int) := by omega
        clear a1 k1 k2
        go_wp2_with (first
          | (go_at_call 20; (with_reducible refine (k1'.out _).mono ?_); rintro e w2 ⟨rfl, hb2⟩)
          | (go_at_call 19; (with_reducible refine (k2'.out _).mono ?_); rintro e w3 ⟨rfl, hb3⟩)
          | (go_at_call 16; (with_reducible refine (a1'.out _).mono ?_); rintro e w4 ⟨rfl, hb4⟩)
          | (go_at_call 16; (with_reducible refine (a2.out _).mono ?_); rintro e w5 ⟨rfl, hb5⟩))
        go_ret
        have s1 := hb1.size
        have s2 := hb2.size
        have s3 := hb3.size
        have s4 := hb4.size
        exact ⟨rfl, hb1.trans ((hb2.mono s1).trans ((hb3.mono (by omega)).trans ((hb4.mono (by omega)).trans (hb5.mono (by omega)))))⟩
end Go.Proofs.Ytpmbioeemkioaaa
