/- The law FnWorstOf. -/
import Derived.Test.YtbijpkphbepacaaProg
import Derived.Test.YtbijpkphbepacaaGrown4
import Derived.Test.YtbijpkphbepacaaTreeN
import Derived.Test.YtbijpkphbepacaaAlive
import Derived.Test.YtbijpkphbepacaaHalves
namespace Go.Proofs.Ytbijpkphbepacaa
open Go.RowKit

def WQ (m : Nat) : Bool := decide (WF m (HS m) = LQ m) && decide (0 ≤ LQ m ∧ LQ m ≤ 8) && (List.range 9).all (fun (j : Nat) => !decide ((j : Int) < LQ m) || decide (2 ^ j < m)) && decide (1 ≤ (HS m).length ∧ (HS m).length ≤ 100)
theorem WQ_all : ∀ m, m < 9 → WQ (m + 1) = true := by decide +kernel
theorem WQ_is {m : Nat} (h1 : 1 ≤ m) (h2 : m ≤ 9) : WF m (HS m) = LQ m ∧ 0 ≤ LQ m ∧ LQ m ≤ 8 ∧ (∀ j : Nat, (j : Int) < LQ m → 2 ^ j < m) ∧ (HS m).length ≤ 100 := by
  obtain ⟨m, rfl⟩ : ∃ k, m = k + 1 := ⟨m - 1, by omega⟩
  have h := WQ_all m (by omega)
  unfold WQ at h
  simp only [Bool.and_eq_true, decide_eq_true_eq, List.all_eq_true, List.mem_range, Bool.or_eq_true, Bool.not_eq_true', decide_eq_false_iff_not] at h
  refine ⟨h.1.1.1, h.1.1.2.1, h.1.1.2.2, fun j hj => ?_, h.2.2⟩
  rcases h.1.2 j (by have := h.1.1.2.2; omega) with e | e
  · exact absurd hj e
  · exact e
/-- No tree is better than halves. -/
theorem WQ_le {m : Nat} {t : T} (h : Good m t) (h1 : 1 ≤ m) (h2 : m ≤ 9) : LQ m ≤ WO t m := by
  obtain ⟨_, q0, q1, q2, _⟩ := WQ_is h1 h2
  apply Classical.byContradiction
  intro hc
  have h0 := WO_ge t m 0 (by omega)
  obtain ⟨W, hW⟩ := Int.eq_ofNat_of_zero_le (show 0 ≤ WO t m by omega)
  have e1 := worst_pow h (by omega) W (by omega) h1
  have e2 := q2 W (by omega)
  omega

set_option maxHeartbeats 2000000 in
theorem law_FnWorstOf (a0 : Option Addr) (len0 cap0 : Nat) (z0 : List Int) (w : World) (w0 : IsRow .u8 w a0 len0 cap0 z0) :
    Calls Try.prog 12 #[.slice a0 len0 cap0] w fun e w' => e = .returned (.bool true) ∧ Below w.heap.size w w' := by
  have hc := Code8.of_row w0
  clear w0
  by_cases hl : 1048576 < len0
  · go_enter Try.func12, Try.ntmps12
    go_wp2_with fail
    go_ret
    exact ⟨rfl, Below.refl _ _⟩
  · go_enter Try.func12, Try.ntmps12
    go_wp2_with fail
    refine (draw_WorstOf _ _ _ _ hc).mono ?_
    rintro e w1 ⟨m, s, rfl, hm1, hm2, hs, hb1⟩
    have k1 := Lib.hid (fun w => impl_WorstOf m s (by omega) w)
    have k2 := Lib.hid (fun w => spec_WorstOf m s (by omega) w)
    obtain ⟨q1, q2, q3, _, q5⟩ := WQ_is hm1 hm2
    have k3 := Lib.hid (impl_LeastQuestions m)
    have k5 : ∀ u : ByteArray, u.data.toList = HS m → ∀ w, Calls Try.prog 16 #[.int .i64 m, .string u] w fun e w' => e = .returned (.int .i64 (LQ m)) ∧ Below w.heap.size w w' := by
      intro u hu w
      have hz : u.size = u.data.toList.length := by cases u; rfl
      have := impl_WorstOf m u (by rw [hz, hu]; omega) w
      rw [hu, q1] at this
      exact this
    have K5 := Lib.hid k5
    clear hc k5 q1 q5
    have hcase : WF m s.data.toList = -1 ∨ (0 ≤ WF m s.data.toList ∧ LQ m ≤ WF m s.data.toList ∧ WF m s.data.toList < m) := by
      cases ht : TO m s.data.toList with
      | none => exact .inl (WF_none ht)
      | some t =>
        have hg := (TO_some.1 ht).2.2
        rw [Int.toNat_natCast] at hg
        rw [WF_some ht, Int.toNat_natCast]
        have := WQ_le hg hm1 hm2
        exact .inr ⟨by omega, this, WO_lt hg m⟩
    generalize WF m s.data.toList = n at *
    generalize LQ m = q at *
    go_wp2_with fail
    refine (k1.out _).mono ?_
    rintro e w2 ⟨rfl, hb2⟩
    go_wp2_with fail
    refine (k2.out _).mono ?_
    rintro e w3 ⟨rfl, hb3⟩
    have hb := hb1.trans ((hb2.mono hb1.size).trans (hb3.mono (Nat.le_trans hb1.size hb2.size)))
    clear hb1 hb2 hb3 k1 k2
    rcases hcase with rfl | ⟨c1, c2, c3⟩
    · go_wp2_with (first | (go_at_call 30; refine (alive_any _).mono ?_; rintro e w6 ⟨rfl, rfl⟩))
      go_ret
      exact ⟨rfl, hb⟩
    · go_wp2_with fail
      refine (k3.out _).mono ?_
      rintro e w4 ⟨rfl, rfl⟩
      go_wp2_with fail
      refine (impl_HalvesOf m _).mono ?_
      rintro e w4 ⟨u, rfl, hu, rfl⟩
      have k6 := Lib.hid (K5.out u hu)
      clear hu
      go_wp2_with fail
      refine (k6.out _).mono ?_
      rintro e w4 ⟨rfl, hb4⟩
      have hb5 := hb.trans (hb4.mono hb.size)
      clear hb hb4
      go_wp2_with fail
      go_ret
      exact ⟨rfl, hb5⟩
end Go.Proofs.Ytbijpkphbepacaa
