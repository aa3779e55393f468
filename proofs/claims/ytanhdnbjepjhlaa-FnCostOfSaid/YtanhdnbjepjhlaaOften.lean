/- OftenOk, both. -/
import Derived.Test.YtanhdnbjepjhlaaProg
import Derived.Test.YtanhdnbjepjhlaaAllIn
namespace Go.Proofs.Ytanhdnbjepjhlaa
open Go.RowKit

/-- the numbers of times are as told -/
def OOk (xs : List Int) : Bool := decide (1 ≤ xs.length ∧ xs.length ≤ 9) && AllB 0 100 xs
theorem AllB_iff {lo hi : Int} {xs : List Int} : AllB lo hi xs = true ↔ ∀ x ∈ xs, lo ≤ x ∧ x ≤ hi := by unfold AllB; exact decide_eq_true_iff

theorem impl_OftenOk (v : Value) (xs : List Int) (w : World) (h : Rd w v xs) :
    Calls Try.prog 17 #[v] w fun e w' => e = .returned (.bool (OOk xs)) ∧ Below w.heap.size w w' := by
  have k := Lib.hid (allIn_any v xs 0 100 w h)
  obtain ⟨a, ca, rfl, hm, _⟩ := h
  unfold maxLen at hm
  by_cases hl : 1 ≤ xs.length ∧ xs.length ≤ 9
  · have e : OOk xs = AllB 0 100 xs := by simp [OOk, hl]
    rw [e]
    obtain ⟨hl1, hl2⟩ := hl
    generalize AllB 0 100 xs = b at *
    clear e
    go_enter Try.func17, Try.ntmps17
    go_wp2_with (first
      | (go_at_call 27; refine (in_yes _ _ _ _ (by omega) (by omega)).mono ?_; rintro e w' ⟨rfl, rfl⟩)
      | (go_at_call 28; (with_reducible refine k.out.mono ?_); rintro e w' ⟨rfl, hb⟩))
    go_ret
    exact ⟨rfl, hb⟩
  · have e : OOk xs = false := by simp only [OOk, hl, decide_false, Bool.false_and]
    rw [e]
    clear e
    go_enter Try.func17, Try.ntmps17
    go_wp2_with (first | (go_at_call 27; refine (in_no _ _ _ _ (by omega)).mono ?_; rintro e w' ⟨rfl, rfl⟩))
    go_ret
    exact ⟨rfl, Below.refl _ _⟩

set_option maxHeartbeats 400000 in
theorem spec_OftenOk (v : Value) (xs : List Int) (w : World) (h : Rd w v xs) :
    Calls Try.prog 18 #[v] w fun e w' => e = .returned (.bool (OOk xs)) ∧ w = w' := by
  obtain ⟨a, ca, rfl, hm, ha⟩ := h
  unfold maxLen at hm
  have HA := Lib.hid ha
  clear ha
  go_enter Try.func18, Try.ntmps18
  go_wp2_with fail
  go_loop [3] (fun q => ∃ k : Nat, k ≤ xs.length ∧ q = .int .i64 k ∧ Hid (∀ j, j < k → 0 ≤ xs.getD j 0 ∧ xs.getD j 0 ≤ 100)) (fun q => xs.length - (intOf q).toNat)
  case atStart => exact ⟨0, by omega, rfl, fun j hj => by omega⟩
  case round =>
    obtain ⟨k, hk, rfl, HP⟩ := hrel
    by_cases hlt : k < xs.length
    · have hne : xs ≠ [] := by intro e; rw [e] at hlt; simp at hlt
      obtain ⟨g, off, rfl, hc⟩ := HA.out hne
      have hck := hc k hlt
      have hi0 : (0 : Int) ≤ (k : Int) := by omega
      have hi1 : (k : Int) < (xs.length : Int) := by omega
      clear hc hne
      by_cases hok : 0 ≤ xs.getD k 0 ∧ xs.getD k 0 ≤ 100
      · have HP2 : Hid (∀ j, j < k + 1 → 0 ≤ xs.getD j 0 ∧ xs.getD j 0 ≤ 100) := by
          intro j hj
          by_cases e : j = k
          · rw [e]; exact hok
          · exact HP.out j (by omega)
        generalize xs.getD k 0 = x at hck hok
        obtain ⟨x1, x2⟩ := hok
        clear HP
        go_wp2_with (first | (go_at_call 29; refine (l1In_yes _ _ _ _ (by omega) (by omega)).mono ?_; rintro e w' ⟨rfl, rfl⟩))
        go_round
        case rel => exact ⟨k + 1, by omega, by go_num, HP2⟩
        case measure => simp [intOf]; omega
      · have hok2 : xs.getD k 0 < 0 ∨ 100 < xs.getD k 0 := by omega
        have hres : OOk xs = false := by
          have : AllB 0 100 xs = false := by
            rw [Bool.eq_false_iff]; intro hA; exact hok (AllB_iff.1 hA _ (by rw [List.getD_eq_getElem?_getD, List.getElem?_eq_getElem hlt]; exact List.getElem_mem hlt))
          simp [OOk, this]
        have HR := Lib.hid hres
        clear hok hres
        generalize xs.getD k 0 = x at hck hok2
        clear HP
        go_wp2_with (first | (go_at_call 29; refine (l1In_no _ _ _ _ (by omega)).mono ?_; rintro e w' ⟨rfl, rfl⟩))
        go_ret
        exact ⟨ret_bool HR.out.symm, rfl⟩
    · have hke : k = xs.length := by omega
      have hres : OOk xs = decide (1 ≤ xs.length ∧ xs.length ≤ 9) := by
        have : AllB 0 100 xs = true := by
          rw [AllB_iff]; intro x hx
          obtain ⟨j, hj, rfl⟩ := List.mem_iff_getElem.1 hx
          have := HP.out j (by omega)
          rwa [List.getD_eq_getElem?_getD, List.getElem?_eq_getElem hj] at this
        simp [OOk, this]
      have HR := Lib.hid hres
      clear hres HP hke
      by_cases hin : 1 ≤ xs.length ∧ xs.length ≤ 9
      · have hr2 : Hid (OOk xs = true) := by show _ = _; rw [HR.out]; exact decide_eq_true hin
        obtain ⟨hl1, hl2⟩ := hin
        go_wp2_with (first | (go_at_call 29; refine (l1In_yes _ _ _ _ (by omega) (by omega)).mono ?_; rintro e w' ⟨rfl, rfl⟩))
        go_ret
        exact ⟨ret_bool hr2.out.symm, rfl⟩
      · have hr2 : Hid (OOk xs = false) := by show _ = _; rw [HR.out]; exact decide_eq_false hin
        go_wp2_with (first | (go_at_call 29; refine (l1In_no _ _ _ _ (by omega)).mono ?_; rintro e w' ⟨rfl, rfl⟩))
        go_ret
        exact ⟨ret_bool hr2.out.symm, rfl⟩

end Go.Proofs.Ytanhdnbjepjhlaa
