/- The constants; LeastQuestions; OftenOk. -/
import Derived.Test.YtinbniphmbcpjaaProg
import Derived.Test.YtinbniphmbcpjaaAllIn
import Derived.Test.YtinbniphmbcpjaaAlive
namespace Go.Proofs.Ytinbniphmbcpjaa
open Go.RowKit

theorem law_FnExactConstants (w : World) : Calls Try.prog 3 #[] w fun e w' => e = .returned (.bool true) ∧ Below w.heap.size w w' := by
  go_enter Try.func3, Try.ntmps3
  go_wp2
  go_ret
  exact ⟨rfl, Below.refl _ _⟩

set_option maxHeartbeats 800000 in
theorem spec_LeastQuestions (n : Int) (w : World) : Calls Try.prog 9 #[.int .i64 n] w fun e w' => e = .returned (.int .i64 (LQ n)) ∧ w = w' := by
  by_cases h : 1 ≤ n ∧ n ≤ 1000000
  · obtain ⟨n, rfl⟩ := Int.eq_ofNat_of_zero_le (show 0 ≤ n by omega)
    have hfin := LQ_nat n (by omega) (by omega)
    generalize LQ n = R at *
    have HF := Lib.hid hfin
    clear hfin
    obtain ⟨h1, h2⟩ := h
    go_enter Try.func9, Try.ntmps9
    go_wp2_with (first
      | (go_at_call 20; refine (l1In_yes _ _ _ _ (by omega) (by omega)).mono ?_; rintro e w' ⟨rfl, rfl⟩))
    go_loop [3, 4] (fun v p => ∃ m P : Nat, m ≤ 20 ∧ v = .int .i64 m ∧ p = .int .i64 P ∧ Hid (P = 2 ^ m) ∧ P ≤ 1048576 ∧ Hid ((lqFrom n m (20 - m) : Int) = R)) (fun v _ => 20 - (intOf v).toNat)
    case atStart => exact ⟨0, 1, by omega, rfl, rfl, rfl, by omega, HF.out.symm⟩
    case round =>
      obtain ⟨m, P, hm, rfl, rfl, HP, hP2, hR⟩ := hrel
      by_cases hlt : P < n
      · have hm2 : m < 20 := by
          apply Classical.byContradiction; intro hc
          have : m = 20 := by omega
          have hp := HP.out
          rw [this] at hp
          omega
        have hR2 : Hid ((lqFrom n (m + 1) (20 - (m + 1)) : Int) = R) := by
          have := hR.out
          rw [show 20 - m = (20 - (m + 1)) + 1 by omega, lqFrom, if_pos (by rw [← HP.out]; exact hlt)] at this
          exact this
        have hQ : Hid (2 * P = 2 ^ (m + 1)) := by show _ = _; rw [HP.out, Nat.pow_succ]; omega
        have hQ2 : 2 * P ≤ 1048576 := by
          have : 2 ^ (m + 1) ≤ 2 ^ 20 := Nat.pow_le_pow_right (by omega) (by omega)
          have := hQ.out
          omega
        clear hR HP
        go_wp2_with fail
        go_round
        case rel => exact ⟨m + 1, 2 * P, by omega, by go_num, by go_num, hQ, hQ2, hR2⟩
        case measure => simp [intOf]; omega
      · have hR2 : Hid ((m : Int) = R) := by
          have := hR.out
          cases hk : 20 - m with
          | zero => rw [hk, lqFrom] at this; exact this
          | succ k => rw [hk, lqFrom, if_neg (by rw [← HP.out]; exact hlt)] at this; exact this
        clear hR
        go_wp2_with fail
        go_ret
        exact ⟨ret_int hR2.out, rfl⟩
  · rw [LQ_out n h]
    go_enter Try.func9, Try.ntmps9
    go_wp2_with (first
      | (go_at_call 20; refine (l1In_no _ _ _ _ (by omega)).mono ?_; rintro e w' ⟨rfl, rfl⟩))
    go_ret
    exact ⟨rfl, rfl⟩

theorem law_FnExactLeastQuestions (a0 : Int) (w : World) (_ : (Lit.int .i64 a0).wf = true) : Calls Try.prog 4 #[.int .i64 a0] w fun e w' => e = .returned (.bool true) ∧ Below w.heap.size w w' := by
  go_enter Try.func4, Try.ntmps4
  go_wp2_with (first
    | (go_at_call 9; refine (spec_LeastQuestions _ _).mono ?_; rintro e w1 ⟨rfl, rfl⟩)
    | (go_at_call 10; refine (impl_LeastQuestions _ _).mono ?_; rintro e w2 ⟨rfl, rfl⟩))
  go_ret
  exact ⟨rfl, Below.refl _ _⟩

/-- the numbers of times are as told -/
def OOk (xs : List Int) : Bool := decide (1 ≤ xs.length ∧ xs.length ≤ 9) && AllB 0 100 xs
theorem AllB_iff {lo hi : Int} {xs : List Int} : AllB lo hi xs = true ↔ ∀ x ∈ xs, lo ≤ x ∧ x ≤ hi := by unfold AllB; exact decide_eq_true_iff

theorem impl_OftenOk (v : Value) (xs : List Int) (w : World) (h : Rd w v xs) :
    Calls Try.prog 15 #[v] w fun e w' => e = .returned (.bool (OOk xs)) ∧ Below w.heap.size w w' := by
  have k := Lib.hid (allIn_any v xs 0 100 w h)
  obtain ⟨a, ca, rfl, hm, _⟩ := h
  unfold maxLen at hm
  by_cases hl : 1 ≤ xs.length ∧ xs.length ≤ 9
  · have e : OOk xs = AllB 0 100 xs := by simp [OOk, hl]
    rw [e]
    obtain ⟨hl1, hl2⟩ := hl
    generalize AllB 0 100 xs = b at *
    clear e
    go_enter Try.func15, Try.ntmps15
    go_wp2_with (first
      | (go_at_call 21; refine (in_yes _ _ _ _ (by omega) (by omega)).mono ?_; rintro e w' ⟨rfl, rfl⟩)
      | (go_at_call 24; (with_reducible refine k.out.mono ?_); rintro e w' ⟨rfl, hb⟩))
    go_ret
    exact ⟨rfl, hb⟩
  · have e : OOk xs = false := by simp only [OOk, hl, decide_false, Bool.false_and]
    rw [e]
    clear e
    go_enter Try.func15, Try.ntmps15
    go_wp2_with (first | (go_at_call 21; refine (in_no _ _ _ _ (by omega)).mono ?_; rintro e w' ⟨rfl, rfl⟩))
    go_ret
    exact ⟨rfl, Below.refl _ _⟩

set_option maxHeartbeats 400000 in
theorem spec_OftenOk (v : Value) (xs : List Int) (w : World) (h : Rd w v xs) :
    Calls Try.prog 13 #[v] w fun e w' => e = .returned (.bool (OOk xs)) ∧ w = w' := by
  obtain ⟨a, ca, rfl, hm, ha⟩ := h
  unfold maxLen at hm
  have HA := Lib.hid ha
  clear ha
  go_enter Try.func13, Try.ntmps13
  go_wp2_with fail
  go_loop [3] (fun q => ∃ k : Nat, k ≤ xs.length ∧ q = .int .i64 k ∧ Hid (∀ j, j < k → 0 ≤ xs.getD j 0 ∧ xs.getD j 0 ≤ 100)) (fun q => xs.length - (intOf q).toNat)
  case atStart => exact ⟨0, by omega, rfl, fun j hj => by omega⟩
  case round =>
    obtain ⟨k, hk, rfl, HP⟩ := hrel
    by_cases hlt : k < xs.length
    · have hne : xs ≠ [] := by intro e; rw [e] at hlt; simp at hlt
      obtain ⟨g, off, rfl, hc⟩ := HA.out hne
      have hck := hc k hlt
      have hi0 : (0 : Int) ≤ (k : Int) := by omega
      have hi1 : (k : Int) < (xs.length : Int) := by omega
      clear hc hne
      by_cases hok : 0 ≤ xs.getD k 0 ∧ xs.getD k 0 ≤ 100
      · have HP2 : Hid (∀ j, j < k + 1 → 0 ≤ xs.getD j 0 ∧ xs.getD j 0 ≤ 100) := by
          intro j hj
          by_cases e : j = k
          · rw [e]; exact hok
          · exact HP.out j (by omega)
        generalize xs.getD k 0 = x at hck hok
        obtain ⟨x1, x2⟩ := hok
        clear HP
        go_wp2_with (first | (go_at_call 20; refine (l1In_yes _ _ _ _ (by omega) (by omega)).mono ?_; rintro e w' ⟨rfl, rfl⟩))
        go_round
        case rel => exact ⟨k + 1, by omega, by go_num, HP2⟩
        case measure => simp [intOf]; omega
      · have hok2 : xs.getD k 0 < 0 ∨ 100 < xs.getD k 0 := by omega
        have hres : OOk xs = false := by
          have : AllB 0 100 xs = false := by
            rw [Bool.eq_false_iff]; intro hA; exact hok (AllB_iff.1 hA _ (by rw [List.getD_eq_getElem?_getD, List.getElem?_eq_getElem hlt]; exact List.getElem_mem hlt))
          simp [OOk, this]
        have HR := Lib.hid hres
        clear hok hres
        generalize xs.getD k 0 = x at hck hok2
        clear HP
        go_wp2_with (first | (go_at_call 20; refine (l1In_no _ _ _ _ (by omega)).mono ?_; rintro e w' ⟨rfl, rfl⟩))
        go_ret
        exact ⟨ret_bool HR.out.symm, rfl⟩
    · have hke : k = xs.length := by omega
      have hres : OOk xs = decide (1 ≤ xs.length ∧ xs.length ≤ 9) := by
        have : AllB 0 100 xs = true := by
          rw [AllB_iff]; intro x hx
          obtain ⟨j, hj, rfl⟩ := List.mem_iff_getElem.1 hx
          have := HP.out j (by omega)
          rwa [List.getD_eq_getElem?_getD, List.getElem?_eq_getElem hj] at this
        simp [OOk, this]
      have HR := Lib.hid hres
      clear hres HP hke
      by_cases hin : 1 ≤ xs.length ∧ xs.length ≤ 9
      · have hr2 : Hid (OOk xs = true) := by show _ = _; rw [HR.out]; exact decide_eq_true hin
        obtain ⟨hl1, hl2⟩ := hin
        go_wp2_with (first | (go_at_call 20; refine (l1In_yes _ _ _ _ (by omega) (by omega)).mono ?_; rintro e w' ⟨rfl, rfl⟩))
        go_ret
        exact ⟨ret_bool hr2.out.symm, rfl⟩
      · have hr2 : Hid (OOk xs = false) := by show _ = _; rw [HR.out]; exact decide_eq_false hin
        go_wp2_with (first | (go_at_call 20; refine (l1In_no _ _ _ _ (by omega)).mono ?_; rintro e w' ⟨rfl, rfl⟩))
        go_ret
        exact ⟨ret_bool hr2.out.symm, rfl⟩

theorem law_FnExactOftenOk (a0 : Option Addr) (len0 cap0 : Nat) (z0 : List Int) (w : World) (w0 : IsRow .i64 w a0 len0 cap0 z0) :
    Calls Try.prog 6 #[.slice a0 len0 cap0] w fun e w' => e = .returned (.bool true) ∧ Below w.heap.size w w' := by
  obtain ⟨hr, hm, hlen⟩ := Rd.of_row w0
  clear w0
  generalize z0.take len0 = xs at *
  by_cases hl : 1048576 < len0
  · unfold maxLen at hm
    go_enter Try.func6, Try.ntmps6
    go_wp2_with fail
    go_ret
    exact ⟨rfl, Below.refl _ _⟩
  · have hx : xs.length ≤ 1048576 := by omega
    clear hlen hm
    have hr0 := Lib.hid hr
    clear hr
    go_enter Try.func6, Try.ntmps6
    go_wp2_with fail
    refine (toIntS_any _ xs _ hr0.out hx).mono ?_
    rintro e w1 ⟨u1, rfl, o1, hb1⟩
    have hr1 := Lib.hid (hr0.out.below hb1)
    go_wp2_with fail
    refine (spec_OftenOk _ xs _ o1.rd).mono ?_
    rintro e w2 ⟨rfl, rfl⟩
    go_wp2_with fail
    refine (toIntS_any _ xs _ hr1.out hx).mono ?_
    rintro e w3 ⟨u3, rfl, o3, hb3⟩
    have hr3 := Lib.hid (hr1.out.below hb3)
    go_wp2_with fail
    refine (impl_OftenOk _ xs _ o3.rd).mono ?_
    rintro e w4 ⟨rfl, hb4⟩
    have hr4 := Lib.hid (hr3.out.below hb4)
    have o4 := o3.below hb4
    go_wp2_with fail
    refine (toIntS_any _ xs _ hr4.out hx).mono ?_
    rintro e w5 ⟨u5, rfl, o5, hb5⟩
    have o5' := o4.below hb5
    go_wp2_with fail
    refine (eqIntS_yes _ _ xs _ o5'.rd o5.rd).mono ?_
    rintro e w6 ⟨rfl, hb6⟩
    go_wp2_with fail
    go_ret
    have s1 := hb1.size
    have s3 := hb3.size
    have s4 := hb4.size
    have s5 := hb5.size
    exact ⟨rfl, hb1.trans ((hb3.mono s1).trans ((hb4.mono (by omega)).trans ((hb5.mono (by omega)).trans (hb6.mono (by omega)))))⟩
end Go.Proofs.Ytinbniphmbcpjaa
