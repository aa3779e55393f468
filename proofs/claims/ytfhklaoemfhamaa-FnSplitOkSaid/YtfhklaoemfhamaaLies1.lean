/- KnownOk. -/
import Derived.Test.YtfhklaoemfhamaaProg
import Derived.Test.YtfhklaoemfhamaaAllIn
namespace Go.Proofs.Ytfhklaoemfhamaa
open Go.RowKit

/-- the sum of the first k numbers -/
def Sm (xs : List Int) : Nat → Int
  | 0 => 0
  | k + 1 => Sm xs k + xs.getD k 0
theorem Sm_bd {xs : List Int} {c : Nat} (h : ∀ j, j < xs.length → 0 ≤ xs.getD j 0 ∧ xs.getD j 0 ≤ c) : ∀ k, k ≤ xs.length → 0 ≤ Sm xs k ∧ Sm xs k ≤ c * k := by
  intro k
  induction k with
  | zero => intro _; simp [Sm]
  | succ k ih => intro hk; have h1 := ih (by omega); have h2 := h k (by omega); rw [Sm]; have : (c : Int) * ((k + 1 : Nat) : Int) = c * k + c := by rw [Int.natCast_add, Int.mul_add]; simp
                 omega

theorem AllB_iff {lo hi : Int} {xs : List Int} : AllB lo hi xs = true ↔ ∀ x ∈ xs, lo ≤ x ∧ x ≤ hi := by unfold AllB; exact decide_eq_true_iff
theorem AllB_getD {lo hi : Int} {xs : List Int} (h : AllB lo hi xs = true) (j : Nat) (hj : j < xs.length) : lo ≤ xs.getD j 0 ∧ xs.getD j 0 ≤ hi :=
  AllB_iff.1 h _ (by rw [List.getD_eq_getElem?_getD, List.getElem?_eq_getElem hj]; exact List.getElem_mem hj)

def KOk (xs : List Int) : Bool := decide (1 ≤ xs.length ∧ xs.length ≤ 3) && (AllB 0 10 xs && decide (Sm xs xs.length ≤ 10))

set_option maxHeartbeats 400000 in
theorem impl_total (v : Value) (xs : List Int) (w : World) (h : Rd w v xs) (hl : xs.length ≤ 1000) (hb : ∀ j, j < xs.length → 0 ≤ xs.getD j 0 ∧ xs.getD j 0 ≤ 1000) :
    Calls Try.prog 36 #[v] w fun e w' => e = .returned (.int .i64 (Sm xs xs.length)) ∧ w = w' := by
  have HS := Lib.hid (Sm_bd (c := 1000) hb)
  have HB := Lib.hid hb
  clear hb
  obtain ⟨a, ca, rfl, hm, ha⟩ := h
  have HA := Lib.hid ha
  clear ha hm
  go_enter Try.func36, Try.ntmps36
  go_wp2_with fail
  go_loop [3, 8] (fun n q => ∃ k : Nat, k ≤ xs.length ∧ q = .int .i64 k ∧ n = .int .i64 (Sm xs k)) (fun _ q => xs.length - (intOf q).toNat)
  case atStart => exact ⟨0, by omega, rfl, rfl⟩
  case round =>
    obtain ⟨k, hk, rfl, rfl⟩ := hrel
    by_cases hlt : k < xs.length
    · have hne : xs ≠ [] := by intro e; rw [e] at hlt; simp at hlt
      obtain ⟨g, off, rfl, hc⟩ := HA.out hne
      have hck := hc k (by omega)
      have hs := HS.out k (by omega)
      have hx := HB.out k (by omega)
      have HN : Hid (Sm xs (k + 1) = Sm xs k + xs.getD k 0) := rfl
      generalize xs.getD k 0 = x at *
      generalize Sm xs k = s at *
      have hi0 : (0 : Int) ≤ (k : Int) := by omega
      have hi1 : (k : Int) < (xs.length : Int) := by omega
      clear hc hne
      go_wp2_with fail
      go_round
      case rel => exact ⟨k + 1, by omega, by go_num, by rw [HN.out]⟩
      case measure => simp [intOf]; omega
    · have hke : k = xs.length := by omega
      have HK := Lib.hid hke
      clear hke
      go_wp2_with fail
      go_ret
      exact ⟨ret_int (by rw [HK.out]), rfl⟩

set_option maxHeartbeats 400000 in
theorem impl_KnownOk (v : Value) (xs : List Int) (w : World) (h : Rd w v xs) :
    Calls Try.prog 14 #[v] w fun e w' => e = .returned (.bool (KOk xs)) ∧ Below w.heap.size w w' := by
  have k := Lib.hid (allIn_any v xs 0 10 w h)
  have HR := Lib.hid h
  obtain ⟨a, ca, rfl, hm, _⟩ := h
  unfold maxLen at hm
  by_cases hl : 1 ≤ xs.length ∧ xs.length ≤ 3
  · cases hA : AllB 0 10 xs with
    | false =>
      have e : KOk xs = false := by simp [KOk, hA]
      rw [e]
      rw [hA] at k
      obtain ⟨hl1, hl2⟩ := hl
      clear e hA
      go_enter Try.func14, Try.ntmps14
      go_wp2_with (first
        | (go_at_call 34; refine (in_yes _ _ _ _ (by omega) (by omega)).mono ?_; rintro e w' ⟨rfl, rfl⟩)
        | (go_at_call 35; (with_reducible refine k.out.mono ?_); rintro e w' ⟨rfl, hb⟩))
      go_ret
      exact ⟨rfl, hb⟩
    | true =>
      have e : KOk xs = decide (Sm xs xs.length ≤ 10) := by simp [KOk, hA, hl]
      rw [e]
      rw [hA] at k
      have hbd := AllB_getD hA
      have k2 : Hid (∀ w', Below w.heap.size w w' → Calls Try.prog 36 #[.slice a xs.length ca] w' fun e w' => e = .returned (.int .i64 (Sm xs xs.length)) ∧ _ = w') :=
        fun w' b => impl_total _ xs w' (HR.out.below b) (by omega) (fun j hj => by have := hbd j hj; omega)
      generalize Sm xs xs.length = s at *
      obtain ⟨hl1, hl2⟩ := hl
      clear e hA hbd
      go_enter Try.func14, Try.ntmps14
      go_wp2_with (first
        | (go_at_call 34; refine (in_yes _ _ _ _ (by omega) (by omega)).mono ?_; rintro e w' ⟨rfl, rfl⟩)
        | (go_at_call 35; (with_reducible refine k.out.mono ?_); rintro e w1 ⟨rfl, hb⟩)
        | (go_at_call 36; (with_reducible refine (k2.out _ hb).mono ?_); rintro e w2 ⟨rfl, rfl⟩))
      go_ret
      exact ⟨rfl, hb⟩
  · have e : KOk xs = false := by simp only [KOk, hl, decide_false, Bool.false_and]
    rw [e]
    clear e
    go_enter Try.func14, Try.ntmps14
    go_wp2_with (first | (go_at_call 34; refine (in_no _ _ _ _ (by omega)).mono ?_; rintro e w' ⟨rfl, rfl⟩))
    go_ret
    exact ⟨rfl, Below.refl _ _⟩

set_option maxHeartbeats 800000 in
theorem spec_KnownOk (v : Value) (xs : List Int) (w : World) (h : Rd w v xs) (hlen : xs.length ≤ 1048576) :
    Calls Try.prog 12 #[v] w fun e w' => e = .returned (.bool (KOk xs)) ∧ w = w' := by
  obtain ⟨a, ca, rfl, _, ha⟩ := h
  have HA := Lib.hid ha
  clear ha
  go_enter Try.func12, Try.ntmps12
  go_wp2_with fail
  go_loop [3, 4] (fun n q => ∃ k : Nat, k ≤ xs.length ∧ q = .int .i64 k ∧ n = .int .i64 (Sm xs k) ∧ 0 ≤ Sm xs k ∧ Sm xs k ≤ 10 * k ∧ Hid (∀ j, j < k → 0 ≤ xs.getD j 0 ∧ xs.getD j 0 ≤ 10)) (fun _ q => xs.length - (intOf q).toNat)
  case atStart => exact ⟨0, by omega, rfl, rfl, by simp [Sm], by simp [Sm], fun j hj => by omega⟩
  case round =>
    obtain ⟨k, hk, rfl, rfl, hs0, hs1, HP⟩ := hrel
    by_cases hlt : k < xs.length
    · have hne : xs ≠ [] := by intro e; rw [e] at hlt; simp at hlt
      obtain ⟨g, off, rfl, hc⟩ := HA.out hne
      have hck := hc k hlt
      have hi0 : (0 : Int) ≤ (k : Int) := by omega
      have hi1 : (k : Int) < (xs.length : Int) := by omega
      clear hc hne
      by_cases hok : 0 ≤ xs.getD k 0 ∧ xs.getD k 0 ≤ 10
      · have HP2 : Hid (∀ j, j < k + 1 → 0 ≤ xs.getD j 0 ∧ xs.getD j 0 ≤ 10) := by
          intro j hj
          by_cases e : j = k
          · rw [e]; exact hok
          · exact HP.out j (by omega)
        have HN : Hid (Sm xs (k + 1) = Sm xs k + xs.getD k 0) := rfl
        generalize xs.getD k 0 = x at *
        generalize Sm xs k = s at *
        obtain ⟨x1, x2⟩ := hok
        clear HP
        go_wp2_with (first | (go_at_call 33; refine (l1In_yes _ _ _ _ (by omega) (by omega)).mono ?_; rintro e w' ⟨rfl, rfl⟩))
        go_round
        case rel => exact ⟨k + 1, by omega, by go_num, by rw [HN.out], by rw [HN.out]; omega, by rw [HN.out]; omega, HP2⟩
        case measure => simp [intOf]; omega
      · have hok2 : xs.getD k 0 < 0 ∨ 10 < xs.getD k 0 := by omega
        have hres : KOk xs = false := by
          have : AllB 0 10 xs = false := by
            rw [Bool.eq_false_iff]; intro hA; exact hok (AllB_getD hA k hlt)
          simp [KOk, this]
        have HR := Lib.hid hres
        clear hok hres
        generalize xs.getD k 0 = x at hck hok2
        clear HP
        go_wp2_with (first | (go_at_call 33; refine (l1In_no _ _ _ _ (by omega)).mono ?_; rintro e w' ⟨rfl, rfl⟩))
        go_ret
        exact ⟨ret_bool HR.out.symm, rfl⟩
    · have hke : k = xs.length := by omega
      have hAll : AllB 0 10 xs = true := by
        rw [AllB_iff]; intro x hx
        obtain ⟨j, hj, rfl⟩ := List.mem_iff_getElem.1 hx
        have := HP.out j (by omega)
        rwa [List.getD_eq_getElem?_getD, List.getElem?_eq_getElem hj] at this
      by_cases hin : 1 ≤ xs.length ∧ xs.length ≤ 3
      · have hr2 : Hid (KOk xs = decide (Sm xs k ≤ 10)) := by show _ = _; simp [KOk, hAll, hin, hke]
        generalize Sm xs k = s at *
        obtain ⟨hl1, hl2⟩ := hin
        clear HP hAll hke
        go_wp2_with (first | (go_at_call 33; refine (l1In_yes _ _ _ _ (by omega) (by omega)).mono ?_; rintro e w' ⟨rfl, rfl⟩))
        go_ret
        exact ⟨ret_bool hr2.out.symm, rfl⟩
      · have hr2 : Hid (KOk xs = false) := by show _ = _; simp only [KOk, hin, decide_false, Bool.false_and]
        clear HP hAll hke
        go_wp2_with (first | (go_at_call 33; refine (l1In_no _ _ _ _ (by omega)).mono ?_; rintro e w' ⟨rfl, rfl⟩))
        go_ret
        exact ⟨ret_bool hr2.out.symm, rfl⟩
theorem law_FnExactKnownOk (a0 : Option Addr) (len0 cap0 : Nat) (z0 : List Int) (w : World) (w0 : IsRow .i64 w a0 len0 cap0 z0) :
    Calls Try.prog 3 #[.slice a0 len0 cap0] w fun e w' => e = .returned (.bool true) ∧ Below w.heap.size w w' := by
  obtain ⟨hr, hm, hlen⟩ := Rd.of_row w0
  clear w0
  generalize z0.take len0 = xs at *
  by_cases hl : 1048576 < len0
  · unfold maxLen at hm
    go_enter Try.func3, Try.ntmps3
    go_wp2_with fail
    go_ret
    exact ⟨rfl, Below.refl _ _⟩
  · have hx : xs.length ≤ 1048576 := by omega
    clear hlen hm
    have hr0 := Lib.hid hr
    clear hr
    go_enter Try.func3, Try.ntmps3
    go_wp2_with fail
    refine (toIntS_any _ xs _ hr0.out hx).mono ?_
    rintro e w1 ⟨u1, rfl, o1, hb1⟩
    have hr1 := Lib.hid (hr0.out.below hb1)
    go_wp2_with fail
    refine (spec_KnownOk _ xs _ o1.rd hx).mono ?_
    rintro e w2 ⟨rfl, rfl⟩
    go_wp2_with fail
    refine (toIntS_any _ xs _ hr1.out hx).mono ?_
    rintro e w3 ⟨u3, rfl, o3, hb3⟩
    have hr3 := Lib.hid (hr1.out.below hb3)
    go_wp2_with fail
    refine (impl_KnownOk _ xs _ o3.rd).mono ?_
    rintro e w4 ⟨rfl, hb4⟩
    have hr4 := Lib.hid (hr3.out.below hb4)
    have o4 := o3.below hb4
    go_wp2_with fail
    refine (toIntS_any _ xs _ hr4.out hx).mono ?_
    rintro e w5 ⟨u5, rfl, o5, hb5⟩
    have o5' := o4.below hb5
    go_wp2_with fail
    refine (eqIntS_yes _ _ xs _ o5'.rd o5.rd).mono ?_
    rintro e w6 ⟨rfl, hb6⟩
    go_wp2_with fail
    go_ret
    have s1 := hb1.size
    have s3 := hb3.size
    have s4 := hb4.size
    have s5 := hb5.size
    exact ⟨rfl, hb1.trans ((hb3.mono s1).trans ((hb4.mono (by omega)).trans ((hb5.mono (by omega)).trans (hb6.mono (by omega)))))⟩
end Go.Proofs.Ytfhklaoemfhamaa
