/- CodeOk. -/
import Derived.Test.YtkkjgcpkimjfkaaProg
import Derived.Test.YtkkjgcpkimjfkaaAllIn
namespace Go.Proofs.Ytkkjgcpkimjfkaa
open Go.RowKit

theorem AllB_iff {lo hi : Int} {xs : List Int} : AllB lo hi xs = true ↔ ∀ x ∈ xs, lo ≤ x ∧ x ≤ hi := by unfold AllB; exact decide_eq_true_iff
theorem AllB_getD {lo hi : Int} {xs : List Int} (h : AllB lo hi xs = true) (j : Nat) (hj : j < xs.length) : lo ≤ xs.getD j 0 ∧ xs.getD j 0 ≤ hi :=
  AllB_iff.1 h _ (by rw [List.getD_eq_getElem?_getD, List.getElem?_eq_getElem hj]; exact List.getElem_mem hj)

def CsOk (p c : Int) : Bool := decide ((1 ≤ p ∧ p ≤ 3) ∧ (1 ≤ c ∧ c ≤ 5))
def COk (p c : Int) (xs : List Int) : Bool := CsOk p c && (decide ((xs.length : Int) = p) && AllB 0 (c - 1) xs)

theorem impl_codes (p c : Int) (w : World) : Calls Try.prog 42 #[.int .i64 p, .int .i64 c] w fun e w' => e = .returned (.bool (CsOk p c)) ∧ w = w' := by
  by_cases h1 : 1 ≤ p ∧ p ≤ 3
  · by_cases h2 : 1 ≤ c ∧ c ≤ 5
    · have e : CsOk p c = true := decide_eq_true ⟨h1, h2⟩
      rw [e]
      obtain ⟨h1, h1'⟩ := h1
      obtain ⟨h2, h2'⟩ := h2
      clear e
      go_enter Try.func42, Try.ntmps42
      go_wp2_with (first
        | (go_at_call 63; refine (in_yes _ _ _ _ (by omega) (by omega)).mono ?_; rintro e w' ⟨rfl, rfl⟩))
      go_ret
      exact ⟨rfl, rfl⟩
    · have e : CsOk p c = false := decide_eq_false (by omega)
      rw [e]
      obtain ⟨h1, h1'⟩ := h1
      clear e
      go_enter Try.func42, Try.ntmps42
      go_wp2_with (first
        | (go_at_call 63; refine (in_yes _ _ _ _ (by omega) (by omega)).mono ?_; rintro e w' ⟨rfl, rfl⟩)
        | (go_at_call 63; refine (in_no _ _ _ _ (by omega)).mono ?_; rintro e w' ⟨rfl, rfl⟩))
      go_ret
      exact ⟨rfl, rfl⟩
  · have e : CsOk p c = false := decide_eq_false (by omega)
    rw [e]
    clear e
    go_enter Try.func42, Try.ntmps42
    go_wp2_with (first
      | (go_at_call 63; refine (in_no _ _ _ _ (by omega)).mono ?_; rintro e w' ⟨rfl, rfl⟩))
    go_ret
    exact ⟨rfl, rfl⟩

set_option maxHeartbeats 400000 in
theorem impl_CodeOk (p c : Int) (v : Value) (xs : List Int) (w : World) (h : Rd w v xs) :
    Calls Try.prog 15 #[.int .i64 p, .int .i64 c, v] w fun e w' => e = .returned (.bool (COk p c xs)) ∧ Below w.heap.size w w' := by
  have k := Lib.hid (allIn_any v xs 0 (c - 1) w h)
  have kc := Lib.hid (impl_codes p c)
  obtain ⟨a, ca, rfl, hm, _⟩ := h
  unfold maxLen at hm
  cases hcs : CsOk p c with
  | false =>
    have e : COk p c xs = false := by simp [COk, hcs]
    rw [e]
    rw [hcs] at kc
    clear e hcs
    go_enter Try.func15, Try.ntmps15
    go_wp2_with (first | (go_at_call 42; (with_reducible refine (kc.out _).mono ?_); rintro e w' ⟨rfl, rfl⟩))
    go_ret
    exact ⟨rfl, Below.refl _ _⟩
  | true =>
    have hr := of_decide_eq_true hcs
    obtain ⟨⟨p1, p2⟩, c1, c2⟩ := hr
    rw [hcs] at kc
    by_cases hl : (xs.length : Int) = p
    · have e : COk p c xs = AllB 0 (c - 1) xs := by simp [COk, hcs, hl]
      rw [e]
      have hb : ((xs.length : Int) == p) = true := by simpa using hl
      generalize AllB 0 (c - 1) xs = b at *
      clear e hcs hl
      go_enter Try.func15, Try.ntmps15
      go_wp2_with (first
        | (go_at_call 42; (with_reducible refine (kc.out _).mono ?_); rintro e w' ⟨rfl, rfl⟩)
        | (go_at_call 43; (with_reducible refine k.out.mono ?_); rintro e w' ⟨rfl, hb⟩))
      go_ret
      exact ⟨rfl, hb⟩
    · have e : COk p c xs = false := by simp [COk, hl]
      rw [e]
      have hb : ((xs.length : Int) == p) = false := by simpa using hl
      clear e hcs hl
      go_enter Try.func15, Try.ntmps15
      go_wp2_with (first | (go_at_call 42; (with_reducible refine (kc.out _).mono ?_); rintro e w' ⟨rfl, rfl⟩))
      go_ret
      exact ⟨rfl, Below.refl _ _⟩

set_option maxHeartbeats 800000 in
theorem spec_CodeOk (p c : Int) (v : Value) (xs : List Int) (w : World) (h : Rd w v xs) :
    Calls Try.prog 13 #[.int .i64 p, .int .i64 c, v] w fun e w' => e = .returned (.bool (COk p c xs)) ∧ w = w' := by
  obtain ⟨a, ca, rfl, hm, ha⟩ := h
  unfold maxLen at hm
  have HA := Lib.hid ha
  clear ha
  obtain ⟨D, hD⟩ : ∃ D, D = wrap64 (c - 1) := ⟨_, rfl⟩
  have hDc : (1 ≤ c ∧ c ≤ 5) → D = c - 1 := fun hc => by rw [hD]; exact IntWalk.wrap64_in _ ⟨by omega, by omega⟩
  have HD := Lib.hid hDc
  have hD' : wrap64 (c - 1) = D := hD.symm
  clear hDc hD
  go_enter Try.func13, Try.ntmps13
  go_wp2_with fail
  go_loop [7] (fun q => ∃ k : Nat, k ≤ xs.length ∧ q = .int .i64 k ∧ Hid (∀ j, j < k → 0 ≤ xs.getD j 0 ∧ xs.getD j 0 ≤ D)) (fun q => xs.length - (intOf q).toNat)
  case atStart => exact ⟨0, by omega, rfl, fun j hj => by omega⟩
  case round =>
    obtain ⟨k, hk, rfl, HP⟩ := hrel
    by_cases hlt : k < xs.length
    · have hne : xs ≠ [] := by intro e; rw [e] at hlt; simp at hlt
      obtain ⟨g, off, rfl, hc⟩ := HA.out hne
      have hck := hc k hlt
      have hi0 : (0 : Int) ≤ (k : Int) := by omega
      have hi1 : (k : Int) < (xs.length : Int) := by omega
      clear hc hne
      by_cases hok : 0 ≤ xs.getD k 0 ∧ xs.getD k 0 ≤ D
      · have HP2 : Hid (∀ j, j < k + 1 → 0 ≤ xs.getD j 0 ∧ xs.getD j 0 ≤ D) := by
          intro j hj
          by_cases e : j = k
          · rw [e]; exact hok
          · exact HP.out j (by omega)
        generalize xs.getD k 0 = x at hck hok
        obtain ⟨x1, x2⟩ := hok
        clear HP
        go_wp2_with (first | (go_at_call 41; go_loud (refine (l1In_yes _ _ _ _ (by omega) (by omega)).mono ?_); rintro e w' ⟨rfl, rfl⟩))
        go_round
        case rel => exact ⟨k + 1, by omega, by go_num, HP2⟩
        case measure => simp [intOf]; omega
      · have hok2 : xs.getD k 0 < 0 ∨ D < xs.getD k 0 := by omega
        have hres : COk p c xs = false := by
          cases hcs : CsOk p c with
          | false => simp [COk, hcs]
          | true =>
            have hr := of_decide_eq_true hcs
            have : AllB 0 (c - 1) xs = false := by
              rw [Bool.eq_false_iff]; intro hA
              have := AllB_getD hA k hlt
              have hd := HD.out hr.2
              omega
            simp [COk, this]
        have HR := Lib.hid hres
        clear hok hres
        generalize xs.getD k 0 = x at hck hok2
        clear HP
        go_wp2_with (first | (go_at_call 41; refine (l1In_no _ _ _ _ (by omega)).mono ?_; rintro e w' ⟨rfl, rfl⟩))
        go_ret
        exact ⟨ret_bool HR.out.symm, rfl⟩
    · have hke : k = xs.length := by omega
      by_cases h1 : 1 ≤ p ∧ p ≤ 3
      · by_cases h2 : 1 ≤ c ∧ c ≤ 5
        · have hAll : AllB 0 (c - 1) xs = true := by
            rw [AllB_iff]; intro x hx
            obtain ⟨j, hj, rfl⟩ := List.mem_iff_getElem.1 hx
            have := HP.out j (by omega)
            rw [List.getD_eq_getElem?_getD, List.getElem?_eq_getElem hj] at this
            have hd := HD.out h2
            simp only [Option.getD_some] at this
            omega
          have hcs : CsOk p c = true := decide_eq_true ⟨h1, h2⟩
          have hres : Hid (COk p c xs = decide ((xs.length : Int) = p)) := by show _ = _; simp [COk, hcs, hAll]
          obtain ⟨h1, h1'⟩ := h1
          obtain ⟨h2, h2'⟩ := h2
          by_cases hl : (xs.length : Int) = p
          · have hb : ((xs.length : Int) == p) = true := by simpa using hl
            have hres2 : Hid (COk p c xs = true) := by show _ = _; rw [hres.out]; exact decide_eq_true hl
            clear HP hAll hcs hke hl hD'
            go_wp2_with (first
              | (go_at_call 41; refine (l1In_yes _ _ _ _ (by omega) (by omega)).mono ?_; rintro e w' ⟨rfl, rfl⟩))
            go_ret
            exact ⟨ret_bool hres2.out.symm, rfl⟩
          · have hb : ((xs.length : Int) == p) = false := by simpa using hl
            have hres2 : Hid (COk p c xs = false) := by show _ = _; rw [hres.out]; exact decide_eq_false hl
            clear HP hAll hcs hke hl hD'
            go_wp2_with (first
              | (go_at_call 41; refine (l1In_yes _ _ _ _ (by omega) (by omega)).mono ?_; rintro e w' ⟨rfl, rfl⟩))
            go_ret
            exact ⟨ret_bool hres2.out.symm, rfl⟩
        · have hcs : CsOk p c = false := decide_eq_false (by omega)
          have hres2 : Hid (COk p c xs = false) := by show _ = _; simp [COk, hcs]
          obtain ⟨h1, h1'⟩ := h1
          clear HP hcs hke hD'
          go_wp2_with (first
            | (go_at_call 41; refine (l1In_yes _ _ _ _ (by omega) (by omega)).mono ?_; rintro e w' ⟨rfl, rfl⟩)
            | (go_at_call 41; refine (l1In_no _ _ _ _ (by omega)).mono ?_; rintro e w' ⟨rfl, rfl⟩))
          go_ret
          exact ⟨ret_bool hres2.out.symm, rfl⟩
      · have hcs : CsOk p c = false := decide_eq_false (by omega)
        have hres2 : Hid (COk p c xs = false) := by show _ = _; simp [COk, hcs]
        clear HP hcs hke hD'
        go_wp2_with (first
          | (go_at_call 41; refine (l1In_no _ _ _ _ (by omega)).mono ?_; rintro e w' ⟨rfl, rfl⟩))
        go_ret
        exact ⟨ret_bool hres2.out.symm, rfl⟩

set_option maxHeartbeats 400000 in
theorem law_FnExactCodeOk (b0 b1 : Int) (a0 : Option Addr) (len0 cap0 : Nat) (z0 : List Int) (w : World) (_ : (Lit.int .i64 b0).wf = true) (_ : (Lit.int .i64 b1).wf = true) (w0 : IsRow .i64 w a0 len0 cap0 z0) :
    Calls Try.prog 3 #[.int .i64 b0, .int .i64 b1, .slice a0 len0 cap0] w fun e w' => e = .returned (.bool true) ∧ Below w.heap.size w w' := by
  obtain ⟨hr, hm, hlen⟩ := Rd.of_row w0
  clear w0
  generalize z0.take len0 = xs at *
  by_cases hl : 1048576 < len0
  · unfold maxLen at hm
    go_enter Try.func3, Try.ntmps3
    go_wp2_with fail
    go_ret
    exact ⟨rfl, Below.refl _ _⟩
  · have hx : xs.length ≤ 1048576 := by omega
    clear hlen hm
    have hr0 := Lib.hid hr
    clear hr
    go_enter Try.func3, Try.ntmps3
    go_wp2_with fail
    refine (toIntS_any _ xs _ hr0.out hx).mono ?_
    rintro e w1 ⟨u1, rfl, o1, hb1⟩
    have hr1 := Lib.hid (hr0.out.below hb1)
    go_wp2_with fail
    refine (spec_CodeOk _ _ _ xs _ o1.rd).mono ?_
    rintro e w2 ⟨rfl, rfl⟩
    go_wp2_with fail
    refine (toIntS_any _ xs _ hr1.out hx).mono ?_
    rintro e w3 ⟨u3, rfl, o3, hb3⟩
    have hr3 := Lib.hid (hr1.out.below hb3)
    go_wp2_with fail
    refine (impl_CodeOk _ _ _ xs _ o3.rd).mono ?_
    rintro e w4 ⟨rfl, hb4⟩
    have hr4 := Lib.hid (hr3.out.below hb4)
    have o4 := o3.below hb4
    go_wp2_with fail
    refine (toIntS_any _ xs _ hr4.out hx).mono ?_
    rintro e w5 ⟨u5, rfl, o5, hb5⟩
    have o5' := o4.below hb5
    go_wp2_with fail
    refine (eqIntS_yes _ _ xs _ o5'.rd o5.rd).mono ?_
    rintro e w6 ⟨rfl, hb6⟩
    go_wp2_with fail
    go_ret
    have s1 := hb1.size
    have s3 := hb3.size
    have s4 := hb4.size
    have s5 := hb5.size
    exact ⟨rfl, hb1.trans ((hb3.mono s1).trans ((hb4.mono (by omega)).trans ((hb5.mono (by omega)).trans (hb6.mono (by omega)))))⟩
end Go.Proofs.Ytkkjgcpkimjfkaa
