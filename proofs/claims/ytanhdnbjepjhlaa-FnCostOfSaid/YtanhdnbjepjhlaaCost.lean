/- The law FnCostOf. -/
import Derived.Test.YtanhdnbjepjhlaaProg
import Derived.Test.YtanhdnbjepjhlaaSum
import Derived.Test.YtanhdnbjepjhlaaTreeN
import Derived.Test.YtanhdnbjepjhlaaOften2
import Derived.Test.YtanhdnbjepjhlaaGrown2
import Derived.Test.YtanhdnbjepjhlaaAlive
namespace Go.Proofs.Ytanhdnbjepjhlaa
open Go.RowKit

set_option maxHeartbeats 2000000 in
theorem draw_CostOf (a : Option Addr) (len cap : Nat) (w : World) (h : Code8 w a len cap) :
    Calls Try.prog 4 #[.slice a len cap] w fun e w' => ∃ (v : Value) (L : List Int) (s : ByteArray), e = .returned (.tuple #[v, .string s]) ∧ w'.ownsRow w.heap.size 3 1 v L.length (L.map (Value.int .i64)) ∧ L.length ≤ 10 ∧ s.size ≤ 200 ∧ Below w.heap.size w w' := by
  go_enter Try.func4, Try.ntmps4
  go_wp2_with fail
  refine (open_any a len cap w h).mono ?_
  rintro e w1 ⟨rfl, hr, hb⟩
  have hR : w.heap.size < w1.heap.size := hr.toU.1
  go_wp2_with fail
  refine (often_any w.heap.size 0 12 (by omega) (by omega) (by omega) w1 hr.toU).mono ?_
  rintro e w2 ⟨v, L, rfl, hown, hL, hr2, hg2⟩
  have hsz2 := hg2.size
  obtain ⟨b, ca, rfl, _⟩ := Ow.of_row hown (by simp only [maxLen]; omega)
  clear hr
  by_cases h0 : L = []
  · subst h0
    go_wp2_with fail
    go_ret2
    exact ⟨_, [], _, rfl, hown.mono hb.size, by simp, by decide, hb.trans (below_of_grownBy hg2 hb.size (Nat.le_refl _))⟩
  · have hl0 : ((L.length : Int) == 0) = false := by
      rw [beq_eq_false_iff_ne]
      intro e
      exact h0 (List.eq_nil_of_length_eq_zero (by omega))
    have hl1 : 1 ≤ L.length := by
      cases L with
      | nil => exact absurd rfl h0
      | cons x r => simp
    clear h0
    go_wp2_with fail
    refine (odd_u w.heap.size _ 14 (by omega) (by omega) (by omega) _ _ hr2).mono ?_
    rintro e w3 ⟨q, rfl, hr3, hg3⟩
    have HO3 := Lib.hid (owns_grown hown hg3 hR)
    have HG3 := Lib.hid (grownBy_then2 hg2 hg3)
    have hsz3 := hg3.size
    clear hown hr2 hg2 hg3
    cases q with
    | true =>
      go_wp2_with fail
      go_ret2
      exact ⟨_, L, _, rfl, HO3.out.mono hb.size, hL, by decide, hb.trans (below_of_grownBy HG3.out hb.size (Nat.le_refl _))⟩
    | false =>
      go_wp2_with fail
      refine (mixed_any w.heap.size _ L.length hl1 (by omega) (by omega) w3 (hr3.base (Nat.le_trans hsz2 hsz3))).mono ?_
      rintro e w4 ⟨g, cap4, M, rfl, hM, hbd, ho, hcm, hr4, hg4⟩
      have HO4 := Lib.hid (owns_grown HO3.out hg4 hR)
      have HG4 := Lib.hid (grownBy_then2 HG3.out hg4)
      have hsz4 := hg4.size
      have hR3 : w.heap.size < w3.heap.size := by omega
      clear hr3 HO3 HG3 hg4
      go_wp2_with fail
      refine (tree_any (L.length + 1) w.heap.size _ L.length g 0 cap4 w3.heap.size M w4 (by omega) hl1 (by omega) (by omega) hM hbd ho hcm hR3 hsz4 hr4).mono ?_
      rintro e w5 ⟨s, rfl, hs1, hs2, hr5, hg5⟩
      have HO5 := Lib.hid (owns_grown HO4.out hg5 hR)
      have HG5 := Lib.hid (grownBy_then2 HG4.out hg5)
      clear hr4 HO4 HG4 hg5 hr5 hbd ho hcm
      go_wp2_with fail
      go_ret2
      exact ⟨_, L, _, rfl, HO5.out.mono hb.size, hL, by omega, hb.trans (below_of_grownBy HG5.out hb.size (Nat.le_refl _))⟩

theorem CO_le {xs : List Int} {n : Nat} {t : T} {W : Int} (h0 : ∀ x ∈ xs, 0 ≤ x) : ∀ k, k ≤ xs.length → (∀ i, i < k → (dep t i : Int) ≤ W) → CO xs n t k ≤ sumL (xs.take k) * W
  | 0, _, _ => by simp [CO, sumL]
  | k + 1, hk, hd => by
    have h1 := CO_le (n := n) h0 k (by omega) (fun i hi => hd i (by omega))
    have hx : 0 ≤ xs.getD k 0 := h0 _ (by rw [List.getD_eq_getElem?_getD, List.getElem?_eq_getElem (show k < xs.length by omega)]; exact List.getElem_mem _)
    have h2 := Int.mul_le_mul_of_nonneg_left (hd k (by omega)) hx
    rw [sumL_take xs k (by omega), CO, Int.add_mul]
    omega
theorem CF_le {xs : List Int} {l : List UInt8} {t : T} (h : OOk xs = true) (ht : TO xs.length l = some t) : CF xs l ≤ sumL xs * WF xs.length l := by
  rw [CF_some h ht, WF_some ht, Int.toNat_natCast]
  have := CO_le (xs := xs) (n := xs.length) (t := t) (W := WO t xs.length) (fun x hx => ((OOk_iff.1 h).2 x hx).1) xs.length (Nat.le_refl _) (fun i hi => WO_ge t _ i hi)
  rwa [List.take_length] at this

set_option maxHeartbeats 2000000 in
theorem law_FnCostOf (a0 : Option Addr) (len0 cap0 : Nat) (z0 : List Int) (w : World) (w0 : IsRow .u8 w a0 len0 cap0 z0) :
    Calls Try.prog 3 #[.slice a0 len0 cap0] w fun e w' => e = .returned (.bool true) ∧ Below w.heap.size w w' := by
  have hc := Code8.of_row w0
  clear w0
  by_cases hl : 1048576 < len0
  · go_enter Try.func3, Try.ntmps3
    go_wp2_with fail
    go_ret
    exact ⟨rfl, Below.refl _ _⟩
  · go_enter Try.func3, Try.ntmps3
    go_wp2_with fail
    refine (draw_CostOf _ _ _ _ hc).mono ?_
    rintro e w1 ⟨v, L, s, rfl, hown, hlen, hs, hb1⟩
    have hs2 : s.size ≤ 1048576 := by omega
    have R1 := Lib.hid (Ow.of_row hown (by simp only [maxLen]; omega)).rd
    clear hc hown
    go_wp2_with fail
    refine (impl_CostOf _ L s hs2 _ R1.out).mono ?_
    rintro e w2 ⟨rfl, hb2⟩
    have R2 := Lib.hid (R1.out.below hb2)
    go_wp2_with fail
    refine (spec_CostOf _ L s hs2 _ R2.out).mono ?_
    rintro e w3 ⟨rfl, hb3⟩
    have R3 := Lib.hid (R2.out.below hb3)
    have hb := hb1.trans ((hb2.mono hb1.size).trans (hb3.mono (Nat.le_trans hb1.size hb2.size)))
    clear R1 R2 hb1 hb2 hb3
    have hcase : CF L s.data.toList = -1 ∨ (0 ≤ CF L s.data.toList ∧ OOk L = true ∧ ∃ t, TO L.length s.data.toList = some t) := by
      cases hok : OOk L with
      | false => exact .inl (CF_bad hok)
      | true =>
        cases ht : TO L.length s.data.toList with
        | none => exact .inl (CF_none ht)
        | some t =>
          have h1 := LAv_least hok ht
          have h2 := LAv_nn hok
          exact .inr ⟨by omega, rfl, t, rfl⟩
    rcases hcase with hcase | ⟨hc0, hok, t, ht⟩
    · rw [hcase]
      clear hcase
      go_wp2_with (first | (go_at_call 7; refine (alive_any _).mono ?_; rintro e w5 ⟨rfl, rfl⟩))
      go_ret
      exact ⟨rfl, hb⟩
    · have ho := OOk_iff.1 hok
      have f1 := LAv_least hok ht
      have f2 := CF_le hok ht
      have f3 := (OOk_sum hok).2.1
      have f4 : 0 ≤ sumL L := sumL_nn (OOk_sum hok).1
      have fb := Lib.hid (show ∀ x ∈ L, 0 ≤ x ∧ x ≤ 1000 from fun x hx => by have := ho.2 x hx; omega)
      have hw0 : -1 ≤ WF L.length s.data.toList ∧ WF L.length s.data.toList ≤ 9 := by
        rw [WF_some ht, Int.toNat_natCast]
        have hg := (TO_some.1 ht).2.2
        rw [Int.toNat_natCast] at hg
        have := WO_lt hg L.length
        have := WO_lo t L.length
        omega
      obtain ⟨a, ca, e0, hm, _⟩ := R3.out
      subst e0
      have kw := Lib.hid (fun w => impl_WorstOf L.length s hs2 w)
      have ks := Lib.hid (fun w h => sumOf_any (.slice a L.length ca) L w h (by omega) fb.out)
      have ka := Lib.hid (fun w h => impl_LeastAverage (.slice a L.length ca) L w h)
      generalize WF L.length s.data.toList = W at *
      generalize CF L s.data.toList = n at *
      generalize LAv L = q at *
      generalize sumL L = S at *
      obtain ⟨p, hp⟩ : ∃ p, S * W = p := ⟨_, rfl⟩
      have hp1 : p ≤ 900 * 9 := by
        rw [← hp]
        have h1 : S * W ≤ S * 9 := Int.mul_le_mul_of_nonneg_left hw0.2 f4
        omega
      rw [hp] at f2
      have hwr : IntKind.i64.wrap (S * W) = p := by rw [hp]; exact IntWalk.i64_in _ (by omega)
      clear hok ht ho hm hw0
      go_wp2_with fail
      refine (ka.out _ R3.out).mono ?_
      rintro e w4 ⟨rfl, hb4⟩
      have R4 := Lib.hid (R3.out.below hb4)
      have hbb := hb.trans (hb4.mono hb.size)
      clear R3 hb hb4 ka
      go_wp2_with fail
      refine (ks.out _ R4.out).mono ?_
      rintro e w5 ⟨rfl, rfl⟩
      go_wp2_with fail
      refine (kw.out _).mono ?_
      rintro e w6 ⟨rfl, hb6⟩
      have hbb6 := hbb.trans (hb6.mono hbb.size)
      clear R4 hbb hb6 ks kw
      go_wp2_with fail
      go_ret
      exact ⟨rfl, hbb6⟩
end Go.Proofs.Ytanhdnbjepjhlaa
