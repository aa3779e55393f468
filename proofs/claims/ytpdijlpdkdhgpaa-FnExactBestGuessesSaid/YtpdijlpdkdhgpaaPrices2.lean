/- UpwardNeeds. -/
import Derived.Test.YtpdijlpdkdhgpaaProg
import Derived.Test.YtpdijlpdkdhgpaaPrices1
namespace Go.Proofs.Ytpdijlpdkdhgpaa
open Go.RowKit

/-- the sum of the first k numbers -/
def Sm (xs : List Int) : Nat → Int
  | 0 => 0
  | k + 1 => Sm xs k + xs.getD k 0
def UN (xs : List Int) : Int := if POk xs = true then Sm xs (xs.length - 1) else -1

theorem POk_bd {xs : List Int} (h : POk xs = true) : xs.length ≤ 9 ∧ ∀ j, j < xs.length → 0 ≤ xs.getD j 0 ∧ xs.getD j 0 ≤ 50 := by
  simp only [POk, Bool.and_eq_true, decide_eq_true_eq] at h
  refine ⟨h.1, fun j hj => AllB_iff.1 h.2 _ ?_⟩
  rw [List.getD_eq_getElem?_getD, List.getElem?_eq_getElem hj]; exact List.getElem_mem hj
theorem Sm_bd {xs : List Int} (h : ∀ j, j < xs.length → 0 ≤ xs.getD j 0 ∧ xs.getD j 0 ≤ 50) : ∀ k, k ≤ xs.length → 0 ≤ Sm xs k ∧ Sm xs k ≤ 50 * k := by
  intro k
  induction k with
  | zero => intro _; simp [Sm]
  | succ k ih => intro hk; have := ih (by omega); have := h k (by omega); rw [Sm]; omega

set_option maxHeartbeats 400000 in
theorem spec_UpwardNeeds (v : Value) (xs : List Int) (w : World) (h : Rd w v xs) :
    Calls Try.prog 14 #[v] w fun e w' => e = .returned (.int .i64 (UN xs)) ∧ w = w' := by
  have k0 := Lib.hid (spec_PricesOk v xs w h)
  cases hp : POk xs with
  | false =>
    have e : UN xs = -1 := by unfold UN; rw [hp]; rfl
    rw [hp] at k0
    rw [e]
    clear h hp e
    go_enter Try.func14, Try.ntmps14
    go_wp2_with (first | (go_at_call 10; (with_reducible refine k0.out.mono ?_); rintro e w' ⟨rfl, rfl⟩))
    go_ret
    exact ⟨rfl, rfl⟩
  | true =>
    have e : UN xs = Sm xs (xs.length - 1) := by unfold UN; rw [hp]; rfl
    obtain ⟨hl, hbd⟩ := POk_bd hp
    have HS := Lib.hid (Sm_bd hbd)
    have HB := Lib.hid hbd
    rw [hp] at k0
    rw [e]
    clear hp e hbd
    obtain ⟨a, ca, rfl, hm, ha⟩ := h
    unfold maxLen at hm
    have HA := Lib.hid ha
    clear ha
    go_enter Try.func14, Try.ntmps14
    go_wp2_with (first | (go_at_call 10; (with_reducible refine k0.out.mono ?_); rintro e w' ⟨rfl, rfl⟩))
    go_loop [3, 4] (fun n q => ∃ k : Nat, k ≤ xs.length - 1 ∧ q = .int .i64 k ∧ n = .int .i64 (Sm xs k)) (fun _ q => xs.length - (intOf q).toNat)
    case atStart => exact ⟨0, by omega, rfl, rfl⟩
    case round =>
      obtain ⟨k, hk, rfl, rfl⟩ := hrel
      by_cases hlt : k + 1 < xs.length
      · have hne : xs ≠ [] := by intro e; rw [e] at hlt; simp at hlt
        obtain ⟨g, off, rfl, hc⟩ := HA.out hne
        have hck := hc k (by omega)
        have hs := HS.out k (by omega)
        have hx := HB.out k (by omega)
        have HN : Hid (Sm xs (k + 1) = Sm xs k + xs.getD k 0) := rfl
        generalize xs.getD k 0 = x at *
        generalize Sm xs k = s at *
        have hi0 : (0 : Int) ≤ (k : Int) := by omega
        have hi1 : (k : Int) < (xs.length : Int) := by omega
        clear hc hne
        go_wp2_with fail
        go_round
        case rel => exact ⟨k + 1, by omega, by go_num, by rw [HN.out]⟩
        case measure => simp [intOf]; omega
      · have hke : k = xs.length - 1 := by omega
        have HK := Lib.hid hke
        clear hke
        go_wp2_with fail
        go_ret
        exact ⟨ret_int (by rw [HK.out]), rfl⟩

set_option maxHeartbeats 800000 in
theorem impl_UpwardNeeds (v : Value) (xs : List Int) (w : World) (h : Rd w v xs) :
    Calls Try.prog 15 #[v] w fun e w' => e = .returned (.int .i64 (UN xs)) ∧ Below w.heap.size w w' := by
  have k0 := Lib.hid (impl_PricesOk v xs w h)
  cases hp : POk xs with
  | false =>
    have e : UN xs = -1 := by unfold UN; rw [hp]; rfl
    rw [hp] at k0
    rw [e]
    clear h hp e
    go_enter Try.func15, Try.ntmps15
    go_wp2_with (first | (go_at_call 12; (with_reducible refine k0.out.mono ?_); rintro e w1 ⟨rfl, hb1⟩))
    go_ret
    exact ⟨rfl, hb1⟩
  | true =>
    have e : UN xs = Sm xs (xs.length - 1) := by unfold UN; rw [hp]; rfl
    obtain ⟨hl, hbd⟩ := POk_bd hp
    have HS := Lib.hid (Sm_bd hbd)
    have HB := Lib.hid hbd
    rw [hp] at k0
    rw [e]
    clear hp e hbd
    have HR := Lib.hid h
    obtain ⟨a, ca, rfl, hm, _⟩ := h
    unfold maxLen at hm
    go_enter Try.func15, Try.ntmps15
    go_wp2_with (first | (go_at_call 12; (with_reducible refine k0.out.mono ?_); rintro e w1 ⟨rfl, hb1⟩))
    obtain ⟨a2, ca2, e2, _, ha⟩ := HR.out.below hb1
    have HA := Lib.hid ha
    have HE := Lib.hid e2
    clear ha e2 HR
    go_loop [3, 11] (fun n q => ∃ k : Nat, k ≤ xs.length ∧ q = .int .i64 k ∧ n = .int .i64 (Sm xs (min k (xs.length - 1)))) (fun _ q => xs.length - (intOf q).toNat)
    case atStart => exact ⟨0, by omega, rfl, by simp [Sm]⟩
    case round =>
      obtain ⟨k, hk, rfl, rfl⟩ := hrel
      by_cases hlt : k < xs.length
      · have hne : xs ≠ [] := by intro e; rw [e] at hlt; simp at hlt
        obtain ⟨g, off, e3, hc⟩ := HA.out hne
        have hck := hc k (by omega)
        obtain rfl : a = some ⟨g, off, none⟩ := by have := HE.out; rw [e3] at this; simp at this; exact this.1
        clear hc hne e3
        have hi0 : (0 : Int) ≤ (k : Int) := by omega
        have hi1 : (k : Int) < (xs.length : Int) := by omega
        by_cases hlast : k + 1 < xs.length
        · have hs := HS.out k (by omega)
          have hx := HB.out k (by omega)
          have HN : Hid (Sm xs (min (k + 1) (xs.length - 1)) = Sm xs k + xs.getD k 0) := by
            show _ = _
            rw [show min (k + 1) (xs.length - 1) = k + 1 by omega, Sm]
          rw [show min k (xs.length - 1) = k by omega]
          generalize xs.getD k 0 = x at *
          generalize Sm xs k = s at *
          go_wp2_with fail
          go_round
          case rel => exact ⟨k + 1, by omega, by go_num, by rw [HN.out]⟩
          case measure => simp [intOf]; omega
        · have HN : Hid (Sm xs (min (k + 1) (xs.length - 1)) = Sm xs (min k (xs.length - 1))) := by
            show _ = _
            rw [show min (k + 1) (xs.length - 1) = min k (xs.length - 1) by omega]
          generalize xs.getD k 0 = x at *
          generalize Sm xs (min k (xs.length - 1)) = s at *
          go_wp2_with fail
          go_round
          case rel => exact ⟨k + 1, by omega, by go_num, by rw [HN.out]⟩
          case measure => simp [intOf]; omega
      · have hke : min k (xs.length - 1) = xs.length - 1 := by omega
        have HK := Lib.hid hke
        clear hke
        go_wp2_with fail
        go_ret
        exact ⟨ret_int (by rw [HK.out]), hb1⟩

set_option maxHeartbeats 400000 in
theorem law_FnExactUpwardNeeds (a0 : Option Addr) (len0 cap0 : Nat) (z0 : List Int) (w : World) (w0 : IsRow .i64 w a0 len0 cap0 z0) :
    Calls Try.prog 4 #[.slice a0 len0 cap0] w fun e w' => e = .returned (.bool true) ∧ Below w.heap.size w w' := by
  obtain ⟨hr, hm, hlen⟩ := Rd.of_row w0
  clear w0
  generalize z0.take len0 = xs at *
  by_cases hl : 1048576 < len0
  · unfold maxLen at hm
    go_enter Try.func4, Try.ntmps4
    go_wp2_with fail
    go_ret
    exact ⟨rfl, Below.refl _ _⟩
  · have hx : xs.length ≤ 1048576 := by omega
    clear hlen hm
    have hr0 := Lib.hid hr
    clear hr
    go_enter Try.func4, Try.ntmps4
    go_wp2_with fail
    refine (toIntS_any _ xs _ hr0.out hx).mono ?_
    rintro e w1 ⟨u1, rfl, o1, hb1⟩
    have hr1 := Lib.hid (hr0.out.below hb1)
    go_wp2_with fail
    refine (spec_UpwardNeeds _ xs _ o1.rd).mono ?_
    rintro e w2 ⟨rfl, rfl⟩
    go_wp2_with fail
    refine (toIntS_any _ xs _ hr1.out hx).mono ?_
    rintro e w3 ⟨u3, rfl, o3, hb3⟩
    have hr3 := Lib.hid (hr1.out.below hb3)
    go_wp2_with fail
    refine (impl_UpwardNeeds _ xs _ o3.rd).mono ?_
    rintro e w4 ⟨rfl, hb4⟩
    have hr4 := Lib.hid (hr3.out.below hb4)
    have o4 := o3.below hb4
    go_wp2_with fail
    refine (toIntS_any _ xs _ hr4.out hx).mono ?_
    rintro e w5 ⟨u5, rfl, o5, hb5⟩
    have o5' := o4.below hb5
    go_wp2_with fail
    refine (eqIntS_yes _ _ xs _ o5'.rd o5.rd).mono ?_
    rintro e w6 ⟨rfl, hb6⟩
    go_wp2_with fail
    go_ret
    have s1 := hb1.size
    have s3 := hb3.size
    have s4 := hb4.size
    have s5 := hb5.size
    exact ⟨rfl, hb1.trans ((hb3.mono s1).trans ((hb4.mono (by omega)).trans ((hb5.mono (by omega)).trans (hb6.mono (by omega)))))⟩
end Go.Proofs.Ytpdijlpdkdhgpaa
