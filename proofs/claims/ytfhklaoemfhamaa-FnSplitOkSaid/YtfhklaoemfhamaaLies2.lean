/- SplitOk. -/
import Derived.Test.YtfhklaoemfhamaaProg
import Derived.Test.YtfhklaoemfhamaaLies1
namespace Go.Proofs.Ytfhklaoemfhamaa
open Go.RowKit

def SOk (xs qs : List Int) : Bool := KOk xs && (decide (qs.length = xs.length) && decide (∀ j, j < qs.length → 0 ≤ qs.getD j 0 ∧ qs.getD j 0 ≤ xs.getD j 0))

theorem KOk_len {xs : List Int} (h : KOk xs = true) : 1 ≤ xs.length ∧ xs.length ≤ 3 := by
  simp only [KOk, Bool.and_eq_true, decide_eq_true_eq] at h; exact h.1
theorem KOk_bd {xs : List Int} (h : KOk xs = true) (j : Nat) (hj : j < xs.length) : 0 ≤ xs.getD j 0 ∧ xs.getD j 0 ≤ 10 := by
  simp only [KOk, Bool.and_eq_true, decide_eq_true_eq] at h; exact AllB_getD h.2.1 j hj
theorem KOk_sum {xs : List Int} (h : KOk xs = true) : Sm xs xs.length ≤ 10 := by
  simp only [KOk, Bool.and_eq_true, decide_eq_true_eq] at h; exact h.2.2

set_option maxHeartbeats 800000 in
theorem impl_SplitOk (v u : Value) (xs qs : List Int) (w : World) (h : Rd w v xs) (hq : Rd w u qs) (_hql : qs.length ≤ 1048576) :
    Calls Try.prog 17 #[v, u] w fun e w' => e = .returned (.bool (SOk xs qs)) ∧ Below w.heap.size w w' := by
  have kc := Lib.hid (impl_KnownOk v xs w h)
  cases hk : KOk xs with
  | false =>
    have e : SOk xs qs = false := by simp [SOk, hk]
    rw [e]
    rw [hk] at kc
    clear e hk h hq
    go_enter Try.func17, Try.ntmps17
    go_wp2_with (first | (go_at_call 14; (with_reducible refine kc.out.mono ?_); rintro e w1 ⟨rfl, hb⟩))
    go_ret
    exact ⟨rfl, hb⟩
  | true =>
    rw [hk] at kc
    obtain ⟨hl1, hl2⟩ := KOk_len hk
    by_cases hl : qs.length = xs.length
    · have e : SOk xs qs = decide (∀ j, j < qs.length → 0 ≤ qs.getD j 0 ∧ qs.getD j 0 ≤ xs.getD j 0) := by simp [SOk, hk, hl]
      have HE := Lib.hid e
      generalize SOk xs qs = R at *
      have HR := Lib.hid h
      have HQ := Lib.hid hq
      obtain ⟨a, ca, rfl, hm, _⟩ := h
      obtain ⟨b, cb, rfl, hm', _⟩ := hq
      have hne0 : ((qs.length : Int) != (xs.length : Int)) = false := by rw [hl]; simp
      have HL := Lib.hid hl
      rw [hl] at hne0 ⊢
      clear e hk hl hm hm'
      go_enter Try.func17, Try.ntmps17
      go_wp2_with (first | (go_at_call 14; (with_reducible refine kc.out.mono ?_); rintro e w1 ⟨rfl, hb⟩))
      obtain ⟨a2, ca2, ea, _, ha⟩ := HR.out.below hb
      obtain ⟨b2, cb2, eb, _, hbq⟩ := HQ.out.below hb
      obtain rfl : a = a2 := by simp at ea; exact ea.1
      obtain rfl : b = b2 := by rw [HL.out] at eb; simp at eb; exact eb.1
      rw [HL.out] at hbq
      have HA := Lib.hid ha
      have HB := Lib.hid hbq
      clear ha hbq ea eb HR HQ
      go_loop [19] (fun q => ∃ k : Nat, k ≤ xs.length ∧ q = .int .i64 k ∧ Hid (∀ j, j < k → 0 ≤ qs.getD j 0 ∧ qs.getD j 0 ≤ xs.getD j 0)) (fun q => xs.length - (intOf q).toNat)
      case atStart => exact ⟨0, by omega, rfl, fun j hj => by omega⟩
      case round =>
        obtain ⟨k, hk, rfl, HP⟩ := hrel
        by_cases hlt : k < xs.length
        · have hne : xs ≠ [] := by intro e; rw [e] at hlt; simp at hlt
          have hneq : qs ≠ [] := by intro e; have := HL.out; rw [e] at this; simp only [List.length_nil] at this; omega
          obtain ⟨g, off, rfl, hc⟩ := HA.out hne
          obtain ⟨g', off', rfl, hc'⟩ := HB.out hneq
          have hck := hc k hlt
          have hck' := hc' k hlt
          have hi0 : (0 : Int) ≤ (k : Int) := by omega
          have hi1 : (k : Int) < (xs.length : Int) := by omega
          clear hc hc' hne hneq
          by_cases hok : 0 ≤ qs.getD k 0 ∧ qs.getD k 0 ≤ xs.getD k 0
          · have HP2 : Hid (∀ j, j < k + 1 → 0 ≤ qs.getD j 0 ∧ qs.getD j 0 ≤ xs.getD j 0) := by
              intro j hj
              by_cases e : j = k
              · rw [e]; exact hok
              · exact HP.out j (by omega)
            generalize xs.getD k 0 = x at hck hok
            generalize qs.getD k 0 = y at hck' hok
            obtain ⟨x1, x2⟩ := hok
            clear HP
            go_wp2_with (first | (go_at_call 34; refine (in_yes _ _ _ _ (by omega) (by omega)).mono ?_; rintro e w' ⟨rfl, rfl⟩))
            go_round
            case rel => exact ⟨k + 1, by omega, by go_num, HP2⟩
            case measure => simp [intOf]; omega
          · have hok2 : qs.getD k 0 < 0 ∨ xs.getD k 0 < qs.getD k 0 := by omega
            have hres : Hid (R = false) := by
              show _ = _
              rw [HE.out]; apply decide_eq_false; intro hA; exact hok (hA k (by rw [HL.out]; exact hlt))
            clear hok
            generalize xs.getD k 0 = x at hck hok2
            generalize qs.getD k 0 = y at hck' hok2
            clear HP
            go_wp2_with (first | (go_at_call 34; refine (in_no _ _ _ _ (by omega)).mono ?_; rintro e w' ⟨rfl, rfl⟩))
            go_ret
            exact ⟨ret_bool hres.out.symm, hb⟩
        · have hres : Hid (R = true) := by
            show _ = _
            rw [HE.out]; apply decide_eq_true; intro j hj; exact HP.out j (by rw [HL.out] at hj; omega)
          go_wp2_with fail
          go_ret
          exact ⟨ret_bool hres.out.symm, hb⟩
    · have e : SOk xs qs = false := by simp [SOk, hl]
      rw [e]
      obtain ⟨a, ca, rfl, hm, _⟩ := h
      obtain ⟨b, cb, rfl, hm', _⟩ := hq
      have hne0 : ((qs.length : Int) != (xs.length : Int)) = true := by rw [bne_iff_ne]; omega
      clear e hk hl
      go_enter Try.func17, Try.ntmps17
      go_wp2_with (first | (go_at_call 14; (with_reducible refine kc.out.mono ?_); rintro e w1 ⟨rfl, hb⟩))
      go_ret
      exact ⟨rfl, hb⟩

set_option maxHeartbeats 1600000 in
theorem spec_SplitOk (v u : Value) (xs qs : List Int) (w : World) (h : Rd w v xs) (hq : Rd w u qs) (hxl : xs.length ≤ 1048576) (hql : qs.length ≤ 1048576) :
    Calls Try.prog 16 #[v, u] w fun e w' => e = .returned (.bool (SOk xs qs)) ∧ Below w.heap.size w w' := by
  have HR := Lib.hid h
  have HQ := Lib.hid hq
  have hK := Lib.hid (fun w' (b : Below w.heap.size w w') => spec_KnownOk v xs w' (HR.out.below b) hxl)
  obtain ⟨a, ca, rfl, _, ha⟩ := h
  obtain ⟨b, cb, rfl, _, hb⟩ := hq
  by_cases hl : qs.length = xs.length
  · have e : SOk xs qs = (KOk xs && decide (∀ j, j < qs.length → 0 ≤ qs.getD j 0 ∧ qs.getD j 0 ≤ xs.getD j 0)) := by simp [SOk, hl]
    have HE := Lib.hid e
    generalize SOk xs qs = R at *
    rw [hl] at hb ⊢
    have HL := Lib.hid hl
    have HA := Lib.hid ha
    have HB := Lib.hid hb
    have heq0 : ((xs.length : Int) == (xs.length : Int)) = true := by simp
    clear hl ha hb e HR HQ hql
    go_enter Try.func16, Try.ntmps16
    go_wp2_with fail
    go_loopw [5] (fun q wr => ∃ k : Nat, k ≤ xs.length ∧ q = .int .i64 k ∧ Below w.heap.size w wr ∧ Hid (∀ j, j < k → 0 ≤ qs.getD j 0 ∧ qs.getD j 0 ≤ xs.getD j 0)) (fun q _ => xs.length - (intOf q).toNat)
    case atStart => exact ⟨0, by omega, rfl, Below.refl _ _, fun j hj => by omega⟩
    case round =>
      obtain ⟨k, hk, rfl, hbel, HP⟩ := hrel
      by_cases hlt : k < xs.length
      · have hne : xs ≠ [] := by intro e; rw [e] at hlt; simp at hlt
        have hneq : qs ≠ [] := by intro e; have := HL.out; rw [e] at this; simp only [List.length_nil] at this; omega
        obtain ⟨g, off, rfl, hc⟩ := HA.out hne
        obtain ⟨g', off', rfl, hc'⟩ := HB.out hneq
        have h1 := hc k hlt
        have h2 := hc' k hlt
        have hck := (hbel.cell (p := ⟨g, off + k, none⟩) (World.block_lt_of_cell? w _ h1)).trans h1
        have hck' := (hbel.cell (p := ⟨g', off' + k, none⟩) (World.block_lt_of_cell? w _ h2)).trans h2
        have hi0 : (0 : Int) ≤ (k : Int) := by omega
        have hi1 : (k : Int) < (xs.length : Int) := by omega
        clear hc hc' hne hneq h1 h2
        by_cases hok : 0 ≤ qs.getD k 0 ∧ qs.getD k 0 ≤ xs.getD k 0
        · have HP2 : Hid (∀ j, j < k + 1 → 0 ≤ qs.getD j 0 ∧ qs.getD j 0 ≤ xs.getD j 0) := by
            intro j hj
            by_cases e : j = k
            · rw [e]; exact hok
            · exact HP.out j (by omega)
          generalize xs.getD k 0 = x at hck hok
          generalize qs.getD k 0 = y at hck' hok
          obtain ⟨x1, x2⟩ := hok
          clear HP
          go_wp2_with fail
          go_quiet ((go_at_call 33; exact Calls.quiet_of_same ((l1In_yes _ _ _ _ (by omega) (by omega)).mono (fun _ _ h => ⟨h.1, h.2.symm⟩))))
          go_wp2_with fail
          go_roundw
          case rel => exact ⟨k + 1, by omega, by go_num, below_drewN hbel _, HP2⟩
          case measure => simp [intOf]; omega
        · have hok2 : qs.getD k 0 < 0 ∨ xs.getD k 0 < qs.getD k 0 := by omega
          have hres : Hid (R = false) := by
            show _ = _
            rw [HE.out]
            have : decide (∀ j, j < qs.length → 0 ≤ qs.getD j 0 ∧ qs.getD j 0 ≤ xs.getD j 0) = false := by
              apply decide_eq_false; intro hA; exact hok (hA k (by rw [HL.out]; exact hlt))
            rw [this]; simp
          clear hok
          generalize xs.getD k 0 = x at hck hok2
          generalize qs.getD k 0 = y at hck' hok2
          clear HP
          go_wp2_with fail
          go_quiet ((go_at_call 33; exact Calls.quiet_of_same ((l1In_no _ _ _ _ (by omega)).mono (fun _ _ h => ⟨h.1, h.2.symm⟩))))
          go_wp2_with fail
          go_ret
          exact ⟨ret_bool hres.out.symm, below_drewN hbel _⟩
      · have hres : Hid (R = KOk xs) := by
          show _ = _
          rw [HE.out]
          have : decide (∀ j, j < qs.length → 0 ≤ qs.getD j 0 ∧ qs.getD j 0 ≤ xs.getD j 0) = true := by
            apply decide_eq_true; intro j hj; exact HP.out j (by rw [HL.out] at hj; omega)
          rw [this]; simp
        have kk := Lib.hid (hK.out _ hbel)
        generalize KOk xs = kb at *
        clear HP hK
        cases kb
        all_goals
          go_wp2_with (first | (go_at_call 12; (with_reducible refine kk.out.mono ?_); rintro e w' ⟨rfl, rfl⟩))
          go_ret
          exact ⟨ret_bool hres.out.symm, hbel⟩
  · have e : SOk xs qs = false := by simp [SOk, hl]
    rw [e]
    have hne0 : ((qs.length : Int) == (xs.length : Int)) = false := by simp; omega
    have kk := Lib.hid (hK.out _ (Below.refl _ _))
    generalize KOk xs = kb at *
    clear e hl ha hb HR HQ hK
    by_cases h0 : 0 < qs.length
    · go_enter Try.func16, Try.ntmps16
      go_wp2_with fail
      refine wp_loop_rounds 1 ?_
      rw [rounds_succ]
      cases kb
      all_goals
        go_wp2_with (first | (go_at_call 12; (with_reducible refine kk.out.mono ?_); rintro e w' ⟨rfl, rfl⟩))
        go_ret
        exact ⟨rfl, Below.refl _ _⟩
    · go_enter Try.func16, Try.ntmps16
      go_wp2_with fail
      refine wp_loop_rounds 1 ?_
      rw [rounds_succ]
      cases kb
      all_goals
        go_wp2_with (first | (go_at_call 12; (with_reducible refine kk.out.mono ?_); rintro e w' ⟨rfl, rfl⟩))
        go_ret
        exact ⟨rfl, Below.refl _ _⟩
end Go.Proofs.Ytfhklaoemfhamaa
