/- PricesOk and UpwardNeeds. -/
import Derived.Test.YtpdijlpdkdhgpaaProg
import Derived.Test.YtpdijlpdkdhgpaaAllIn
namespace Go.Proofs.Ytpdijlpdkdhgpaa
open Go.RowKit

def POk (xs : List Int) : Bool := decide (xs.length ≤ 9) && AllB 0 50 xs
theorem AllB_iff {lo hi : Int} {xs : List Int} : AllB lo hi xs = true ↔ ∀ x ∈ xs, lo ≤ x ∧ x ≤ hi := by unfold AllB; exact decide_eq_true_iff

theorem impl_PricesOk (v : Value) (xs : List Int) (w : World) (h : Rd w v xs) :
    Calls Try.prog 12 #[v] w fun e w' => e = .returned (.bool (POk xs)) ∧ Below w.heap.size w w' := by
  have k := Lib.hid (allIn_any v xs 0 50 w h)
  obtain ⟨a, ca, rfl, hm, _⟩ := h
  unfold maxLen at hm
  by_cases hl : xs.length ≤ 9
  · have e : POk xs = AllB 0 50 xs := by simp [POk, hl]
    rw [e]
    generalize AllB 0 50 xs = b at *
    clear e
    go_enter Try.func12, Try.ntmps12
    go_wp2_with (first | (go_at_call 26; (with_reducible refine k.out.mono ?_); rintro e w' ⟨rfl, hb⟩))
    go_ret
    exact ⟨rfl, hb⟩
  · have e : POk xs = false := by simp [POk]; intro h; omega
    rw [e]
    have hd : decide ((xs.length : Int) ≤ 9) = false := by simp; omega
    clear e
    go_enter Try.func12, Try.ntmps12
    go_wp2_with fail
    go_ret
    exact ⟨rfl, Below.refl _ _⟩

set_option maxHeartbeats 400000 in
theorem spec_PricesOk (v : Value) (xs : List Int) (w : World) (h : Rd w v xs) :
    Calls Try.prog 10 #[v] w fun e w' => e = .returned (.bool (POk xs)) ∧ w = w' := by
  obtain ⟨a, ca, rfl, hm, ha⟩ := h
  unfold maxLen at hm
  have HA := Lib.hid ha
  clear ha
  go_enter Try.func10, Try.ntmps10
  go_wp2_with fail
  go_loop [3] (fun q => ∃ k : Nat, k ≤ xs.length ∧ q = .int .i64 k ∧ Hid (∀ j, j < k → 0 ≤ xs.getD j 0 ∧ xs.getD j 0 ≤ 50)) (fun q => xs.length - (intOf q).toNat)
  case atStart => exact ⟨0, by omega, rfl, fun j hj => by omega⟩
  case round =>
    obtain ⟨k, hk, rfl, HP⟩ := hrel
    by_cases hlt : k < xs.length
    · have hne : xs ≠ [] := by intro e; rw [e] at hlt; simp at hlt
      obtain ⟨g, off, rfl, hc⟩ := HA.out hne
      have hck := hc k hlt
      have hi0 : (0 : Int) ≤ (k : Int) := by omega
      have hi1 : (k : Int) < (xs.length : Int) := by omega
      clear hc hne
      by_cases hok : 0 ≤ xs.getD k 0 ∧ xs.getD k 0 ≤ 50
      · have HP2 : Hid (∀ j, j < k + 1 → 0 ≤ xs.getD j 0 ∧ xs.getD j 0 ≤ 50) := by
          intro j hj
          by_cases e : j = k
          · rw [e]; exact hok
          · exact HP.out j (by omega)
        generalize xs.getD k 0 = x at hck hok
        obtain ⟨x1, x2⟩ := hok
        clear HP
        go_wp2_with (first | (go_at_call 25; refine (l1In_yes _ _ _ _ (by omega) (by omega)).mono ?_; rintro e w' ⟨rfl, rfl⟩))
        go_round
        case rel => exact ⟨k + 1, by omega, by go_num, HP2⟩
        case measure => simp [intOf]; omega
      · have hok2 : xs.getD k 0 < 0 ∨ 50 < xs.getD k 0 := by omega
        have hres : POk xs = false := by
          have : AllB 0 50 xs = false := by
            rw [Bool.eq_false_iff]; intro hA; exact hok (AllB_iff.1 hA _ (by rw [List.getD_eq_getElem?_getD, List.getElem?_eq_getElem hlt]; exact List.getElem_mem hlt))
          simp [POk, this]
        have HR := Lib.hid hres
        clear hok hres
        generalize xs.getD k 0 = x at hck hok2
        clear HP
        go_wp2_with (first | (go_at_call 25; refine (l1In_no _ _ _ _ (by omega)).mono ?_; rintro e w' ⟨rfl, rfl⟩))
        go_ret
        exact ⟨ret_bool HR.out.symm, rfl⟩
    · have hke : k = xs.length := by omega
      have hres : POk xs = decide (xs.length ≤ 9) := by
        have : AllB 0 50 xs = true := by
          rw [AllB_iff]; intro x hx
          obtain ⟨j, hj, rfl⟩ := List.mem_iff_getElem.1 hx
          have := HP.out j (by omega)
          rwa [List.getD_eq_getElem?_getD, List.getElem?_eq_getElem hj] at this
        simp [POk, this]
      have HR := Lib.hid hres
      clear hres HP hke
      go_wp2_with fail
      go_ret
      exact ⟨ret_bool (by rw [HR.out]; simp; omega), rfl⟩

theorem law_FnExactPricesOk (a0 : Option Addr) (len0 cap0 : Nat) (z0 : List Int) (w : World) (w0 : IsRow .i64 w a0 len0 cap0 z0) :
    Calls Try.prog 3 #[.slice a0 len0 cap0] w fun e w' => e = .returned (.bool true) ∧ Below w.heap.size w w' := by
  obtain ⟨hr, hm, hlen⟩ := Rd.of_row w0
  clear w0
  generalize z0.take len0 = xs at *
  by_cases hl : 1048576 < len0
  · unfold maxLen at hm
    go_enter Try.func3, Try.ntmps3
    go_wp2_with fail
    go_ret
    exact ⟨rfl, Below.refl _ _⟩
  · have hx : xs.length ≤ 1048576 := by omega
    clear hlen hm
    have hr0 := Lib.hid hr
    clear hr
    go_enter Try.func3, Try.ntmps3
    go_wp2_with fail
    refine (toIntS_any _ xs _ hr0.out hx).mono ?_
    rintro e w1 ⟨u1, rfl, o1, hb1⟩
    have hr1 := Lib.hid (hr0.out.below hb1)
    go_wp2_with fail
    refine (spec_PricesOk _ xs _ o1.rd).mono ?_
    rintro e w2 ⟨rfl, rfl⟩
    go_wp2_with fail
    refine (toIntS_any _ xs _ hr1.out hx).mono ?_
    rintro e w3 ⟨u3, rfl, o3, hb3⟩
    have hr3 := Lib.hid (hr1.out.below hb3)
    go_wp2_with fail
    refine (impl_PricesOk _ xs _ o3.rd).mono ?_
    rintro e w4 ⟨rfl, hb4⟩
    have hr4 := Lib.hid (hr3.out.below hb4)
    have o4 := o3.below hb4
    go_wp2_with fail
    refine (toIntS_any _ xs _ hr4.out hx).mono ?_
    rintro e w5 ⟨u5, rfl, o5, hb5⟩
    have o5' := o4.below hb5
    go_wp2_with fail
    refine (eqIntS_yes _ _ xs _ o5'.rd o5.rd).mono ?_
    rintro e w6 ⟨rfl, hb6⟩
    go_wp2_with fail
    go_ret
    have s1 := hb1.size
    have s3 := hb3.size
    have s4 := hb4.size
    have s5 := hb5.size
    exact ⟨rfl, hb1.trans ((hb3.mono s1).trans ((hb4.mono (by omega)).trans ((hb5.mono (by omega)).trans (hb6.mono (by omega)))))⟩
end Go.Proofs.Ytpdijlpdkdhgpaa
