/- The law FnUpwardNeeds. -/
import Derived.Test.YtpdijlpdkdhgpaaProg
import Derived.Test.YtpdijlpdkdhgpaaPrices10
import Derived.Test.YtpdijlpdkdhgpaaPrices11
import Derived.Test.YtpdijlpdkdhgpaaAlive
import Derived.BigQuiet
namespace Go.Proofs.Ytpdijlpdkdhgpaa
open Go.RowKit

set_option maxHeartbeats 1000000 in
theorem draw_UpwardNeeds (a : Option Addr) (len cap : Nat) (w : World) (h : Code8 w a len cap) :
    Calls Try.prog 22 #[.slice a len cap] w fun e w' => ∃ (v : Value) (L : List Int), e = .returned v ∧ w'.ownsRow w.heap.size 3 1 v L.length (L.map (Value.int .i64)) ∧ L.length ≤ 10 ∧ Below w.heap.size w w' := by
  go_enter Try.func22, Try.ntmps22
  go_wp2_with fail
  refine (open_any a len cap w h).mono ?_
  rintro e w1 ⟨rfl, hr, hb⟩
  go_wp2_with fail
  refine (prices_any w.heap.size 0 9 (by omega) (by omega) (by omega) w1 hr.toU).mono ?_
  rintro e w2 ⟨v, L, rfl, hown, hL, hg⟩
  go_wp2_with fail
  go_ret
  exact ⟨_, L, rfl, hown.mono hb.size, hL, hb.trans (below_of_grownBy hg hb.size (Nat.le_refl _))⟩

theorem sumF_snoc (xs : List Int) : ∀ (k a : Nat), sumF xs a (k + 1) = sumF xs a k + xs.getD (a + k) 0
  | 0, a => by simp [sumF]
  | k + 1, a => by
    rw [sumF, sumF_snoc xs k (a + 1), sumF, show a + 1 + k = a + (k + 1) by omega]
    omega
theorem sumF_Sm (xs : List Int) : ∀ k, sumF xs 0 k = Sm xs k
  | 0 => rfl
  | k + 1 => by rw [sumF_snoc, sumF_Sm xs k, Sm, Nat.zero_add]
theorem UN_facts {xs : List Int} (h : POk xs = true) : SW xs ≤ UN xs ∧ (xs.length ≤ 1 → UN xs = SW xs) ∧ (xs.length = 2 → xs.getD 0 0 ≤ xs.getD 1 0 → UN xs = SW xs) := by
  have hx := POk_all h
  have e : UN xs = Sm xs (xs.length - 1) := if_pos h
  rw [SW_ok h, e]
  refine ⟨?_, fun hl => ?_, fun hl hp => ?_⟩
  · by_cases h0 : xs.length = 0
    · rw [h0, Cx_short (by omega)]; exact Int.le_refl _
    · have := Cx_up hx (xs.length - 1) 0
      rw [sumF_Sm, show 0 + 1 + (xs.length - 1) = xs.length by omega] at this
      exact this
  · rw [Cx_short (by omega), show xs.length - 1 = 0 by omega]; rfl
  · rw [hl]
    show 0 + xs.getD 0 0 = _
    obtain ⟨g, _, g2, eg⟩ := Cx_is hx (a := 0) (b := 2) (by omega)
    have h0 := Cx_le hx (a := 0) (b := 2) (g := 0) (by omega) (by omega) (by omega)
    have z1 : Cx xs 0 0 = 0 := Cx_short (by omega)
    have z2 : Cx xs 1 2 = 0 := Cx_short (by omega)
    have z3 : Cx xs 0 1 = 0 := Cx_short (by omega)
    have z4 : Cx xs 2 2 = 0 := Cx_short (by omega)
    obtain rfl | rfl : g = 0 ∨ g = 1 := by omega
    · unfold cand at eg
      rw [z1, show 0 + 1 = 1 from rfl, z2] at eg
      omega
    · unfold cand at eg h0
      rw [z1, show 0 + 1 = 1 from rfl, z2] at h0
      rw [z3, show 1 + 1 = 2 from rfl, z4] at eg
      omega

set_option maxHeartbeats 2000000 in
theorem law_FnUpwardNeeds (a0 : Option Addr) (len0 cap0 : Nat) (z0 : List Int) (w : World) (w0 : IsRow .u8 w a0 len0 cap0 z0) :
    Calls Try.prog 8 #[.slice a0 len0 cap0] w fun e w' => e = .returned (.bool true) ∧ Below w.heap.size w w' := by
  have hc := Code8.of_row w0
  clear w0
  by_cases hl : 1048576 < len0
  · go_enter Try.func8, Try.ntmps8
    go_wp2_with fail
    go_ret
    exact ⟨rfl, Below.refl _ _⟩
  · go_enter Try.func8, Try.ntmps8
    go_wp2_with fail
    refine (draw_UpwardNeeds _ _ _ _ hc).mono ?_
    rintro e w1 ⟨v, L, rfl, hown, hlen, hb1⟩
    have R1 := Lib.hid (Ow.of_row hown (by simp only [maxLen]; omega)).rd
    clear hc hown
    go_wp2_with fail
    refine (impl_UpwardNeeds _ L _ R1.out).mono ?_
    rintro e w2 ⟨rfl, hb2⟩
    have R2 := Lib.hid (R1.out.below hb2)
    go_wp2_with fail
    refine (spec_UpwardNeeds _ L _ R2.out).mono ?_
    rintro e w3 ⟨rfl, rfl⟩
    have hb := hb1.trans (hb2.mono hb1.size)
    clear R1 hb1 hb2
    cases hok : POk L with
    | false =>
      rw [show UN L = -1 by unfold UN; rw [hok]; rfl]
      clear hok
      go_wp2_with (first | (go_at_call 21; refine (alive_any _).mono ?_; rintro e w5 ⟨rfl, rfl⟩))
      go_ret
      exact ⟨rfl, hb⟩
    | true =>
      obtain ⟨f1, f2, f3⟩ := UN_facts hok
      have f0 : 0 ≤ SW L := by rw [SW_ok hok]; exact Cx_nn (POk_all hok) _ _
      have F2 := Lib.hid f2
      have F3 := Lib.hid f3
      have ks := Lib.hid (fun v w h => impl_SureWith v L w h)
      generalize UN L = n at *
      generalize SW L = m at *
      clear hok f2 f3
      go_wp2_with fail
      refine (ks.out _ _ R2.out).mono ?_
      rintro e w4 ⟨rfl, hb4⟩
      have R4 := Lib.hid (R2.out.below hb4)
      have hbb := hb.trans (hb4.mono hb.size)
      obtain ⟨ao, ca, rfl, _, hcl⟩ := R4.out
      have HCL := Lib.hid hcl
      clear R2 hb hb4 ks hcl
      by_cases h2 : 2 < L.length
      · have hd : decide ((2 : Int) < (L.length : Int)) = true := by simp; omega
        have h2i : (2 : Int) < (L.length : Int) := by omega
        clear F2 F3
        go_wp2_with fail
        go_quiet (fail)
        go_wp2_with fail
        go_ret
        exact ⟨rfl, below_drewN hbb _⟩
      · have hd : decide ((2 : Int) < (L.length : Int)) = false := by simp; omega
        by_cases h22 : L.length = 2
        · have hq : ((L.length : Int) == 2) = true := by rw [beq_iff_eq]; omega
          obtain ⟨g, off, rfl, hcell⟩ := HCL.out (by intro e; rw [e] at h22; simp at h22)
          have c0 := hcell 0 (by omega)
          have c1 := hcell 1 (by omega)
          have F4 := Lib.hid (F3.out h22)
          rw [Nat.add_zero] at c0
          generalize L.getD 0 0 = x at *
          generalize L.getD 1 0 = y at *
          have i1 : (0 : Int) < (L.length : Int) := by omega
          have i2 : (1 : Int) < (L.length : Int) := by omega
          clear hcell F2 F3 h2
          by_cases hxy : y < x
          · clear h22
            go_wp2_with fail
            go_quiet (fail)
            go_wp2_with fail
            go_ret
            exact ⟨rfl, below_drewN hbb _⟩
          · have hnm := F4.out (by omega)
            subst hnm
            have hdy : decide (y < x) = false := by simp; omega
            clear h22
            go_wp2_with fail
            go_quiet (fail)
            go_wp2_with fail
            go_ret
            exact ⟨rfl, below_drewN hbb _⟩
        · have hq : ((L.length : Int) == 2) = false := by rw [beq_eq_false_iff_ne]; omega
          have hnm := F2.out (by omega)
          subst hnm
          clear F2 F3 h22 h2
          go_wp2_with fail
          go_quiet (fail)
          go_wp2_with fail
          go_ret
          exact ⟨rfl, below_drewN hbb _⟩
end Go.Proofs.Ytpdijlpdkdhgpaa
