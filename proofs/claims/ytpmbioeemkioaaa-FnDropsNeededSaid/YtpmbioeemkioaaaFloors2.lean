import Derived.Test.YtpmbioeemkioaaaProg
import Derived.Test.YtpmbioeemkioaaaFloors
import Derived.Deep.RegionHeld3
namespace Go.Proofs.Ytpmbioeemkioaaa
open Go.RowKit

theorem bcell {W w1 : World} (hb : Below W.heap.size W w1) : (∀ b o, b < W.heap.size → w1.cell? ⟨b, o, none⟩ = W.cell? ⟨b, o, none⟩) ∧ (∀ b o, b < W.heap.size → w1.frozen? ⟨b, o, none⟩ = W.frozen? ⟨b, o, none⟩) :=
  ⟨fun b o h => hb.cell (p := ⟨b, o, none⟩) h, fun b o h => hb.frozen (p := ⟨b, o, none⟩) h⟩

set_option maxHeartbeats 400000 in
theorem next_any (lo hi : Int) (c d : Nat) (h1 : 0 ≤ lo) (h2 : lo ≤ 10000) (h3 : 0 ≤ hi) (h4 : hi ≤ 10000) (hc : c ≤ 7) (hd : d ≤ 13) (w : World) :
    Calls Try.prog 41 #[.agg #[.int .i64 lo, .int .i64 hi, .int .i64 (c + 1), .int .i64 (d + 1)]] w
      fun e w' => e = .returned (.int .i64 (min (hi - 1) (lo + Ap c d))) ∧ Below w.heap.size w w' := by
  have hA := Ap_small c d (by omega)
  have hw1 : IntKind.i64.wrap (c : Int) = c := IntWalk.i64_in _ (by omega)
  have hw2 : IntKind.i64.wrap (d : Int) = d := IntWalk.i64_in _ (by omega)
  have hw3 : IntKind.i64.wrap (hi - 1) = hi - 1 := IntWalk.i64_in _ (by omega)
  have hw4 : IntKind.i64.wrap (lo + (Ap c d : Int)) = lo + Ap c d := IntWalk.i64_in _ (by omega)
  go_enter Try.func41, Try.ntmps41
  go_wp2_with fail
  go_region_held3 (fun w' => w'.cell? ⟨w.heap.size, 0, none⟩ = some (.int .i64 lo) ∧ w'.cell? ⟨w.heap.size, 1, none⟩ = some (.int .i64 hi) ∧ w'.cell? ⟨w.heap.size, 2, none⟩ = some (.int .i64 (c + 1)) ∧ w'.cell? ⟨w.heap.size, 3, none⟩ = some (.int .i64 (d + 1)))
    (first | go_keep | (go_split_ands; refine ⟨?_, ?_, ?_, ?_⟩ <;> (rw [(bcell hb).1 _ _ (by simp)]; simp)))
    (first | (go_at_call 40; ((with_reducible refine (apart_any c d (by omega) (by omega) _).mono ?_); rintro e w1 ⟨rfl, hb⟩)))
  clear hw1 hw2 hw3 hw4
  go_wp2
  all_goals
    go_ret
    exact ⟨ret_int (by omega), ((Below.refl _ _).alloc (Nat.le_refl _) _).drew.trans (hb.mono (by simp))⟩

/-- from which floor a cup is dropped next -/
def ND (lo hi c d : Int) : Int := if (0 ≤ lo ∧ lo ≤ 10000) ∧ (0 ≤ hi ∧ hi ≤ 10000) ∧ 2 ≤ hi - lo ∧ (1 ≤ c ∧ c ≤ 8) ∧ (1 ≤ d ∧ d ≤ 14) then min (hi - 1) (lo + TA (c - 1) (d - 1)) else -1

theorem ND_in (lo hi c d : Int) (h : (0 ≤ lo ∧ lo ≤ 10000) ∧ (0 ≤ hi ∧ hi ≤ 10000) ∧ 2 ≤ hi - lo ∧ (1 ≤ c ∧ c ≤ 8) ∧ (1 ≤ d ∧ d ≤ 14)) : ND lo hi c d = min (hi - 1) (lo + TA (c - 1) (d - 1)) := by unfold ND; rw [if_pos h]
theorem ND_out (lo hi c d : Int) (h : ¬ ((0 ≤ lo ∧ lo ≤ 10000) ∧ (0 ≤ hi ∧ hi ≤ 10000) ∧ 2 ≤ hi - lo ∧ (1 ≤ c ∧ c ≤ 8) ∧ (1 ≤ d ∧ d ≤ 14))) : ND lo hi c d = -1 := by unfold ND; rw [if_neg h]
theorem ND_nat (lo hi : Int) (c d : Nat) (h1 : 0 ≤ lo) (h2 : lo ≤ 10000) (h3 : 0 ≤ hi) (h4 : hi ≤ 10000) (h5 : 2 ≤ hi - lo) (hc : c ≤ 7) (hd : d ≤ 13) : ND lo hi (c + 1) (d + 1) = min (hi - 1) (lo + Ap c d) := by
  rw [ND_in _ _ _ _ (by omega), show (c : Int) + 1 - 1 = c by omega, show (d : Int) + 1 - 1 = d by omega, TA_in _ _ (by omega) (by omega)]

theorem ND_cases (lo hi c d : Int) : (lo < 0 ∨ 10000 < lo) ∨ ((0 ≤ lo ∧ lo ≤ 10000) ∧ (hi < 0 ∨ 10000 < hi)) ∨ ((0 ≤ lo ∧ lo ≤ 10000) ∧ (0 ≤ hi ∧ hi ≤ 10000) ∧ hi - lo < 2) ∨
    ((0 ≤ lo ∧ lo ≤ 10000) ∧ (0 ≤ hi ∧ hi ≤ 10000) ∧ 2 ≤ hi - lo ∧ (c < 1 ∨ 8 < c)) ∨ ((0 ≤ lo ∧ lo ≤ 10000) ∧ (0 ≤ hi ∧ hi ≤ 10000) ∧ 2 ≤ hi - lo ∧ (1 ≤ c ∧ c ≤ 8) ∧ (d < 1 ∨ 14 < d)) ∨
    ((0 ≤ lo ∧ lo ≤ 10000) ∧ (0 ≤ hi ∧ hi ≤ 10000) ∧ 2 ≤ hi - lo ∧ (1 ≤ c ∧ c ≤ 8) ∧ (1 ≤ d ∧ d ≤ 14)) := by omega

theorem TA_bd (c d : Int) : -1 ≤ TA c d ∧ TA c d ≤ 16384 := by
  unfold TA
  split
  · have := Ap_small c.toNat d.toNat (by omega); omega
  · omega

set_option maxHeartbeats 800000 in
theorem impl_NextDrop (lo hi c d : Int) (w : World) : Calls Try.prog 18 #[.int .i64 lo, .int .i64 hi, .int .i64 c, .int .i64 d] w fun e w' => e = .returned (.int .i64 (ND lo hi c d)) ∧ Below w.heap.size w w' := by
  rcases ND_cases lo hi c d with h | ⟨h1, h⟩ | ⟨h1, h2, h⟩ | ⟨h1, h2, h3, h⟩ | ⟨h1, h2, h3, h4, h⟩ | ⟨h1, h2, h3, h4, h5⟩
  iterate 5
    · go_enter Try.func18, Try.ntmps18
      go_wp2_with (first
        | (go_at_call 39; refine (in_yes _ _ _ _ (by omega) (by omega)).mono ?_; rintro e w' ⟨rfl, rfl⟩)
        | (go_at_call 39; refine (in_no _ _ _ _ (by omega)).mono ?_; rintro e w' ⟨rfl, rfl⟩))
      go_ret
      exact ⟨by rw [ND_out _ _ _ _ (by omega)]; rfl, Below.refl _ _⟩
  · obtain ⟨c, rfl⟩ : ∃ k : Nat, c = k + 1 := ⟨(c - 1).toNat, by omega⟩
    obtain ⟨d, rfl⟩ : ∃ k : Nat, d = k + 1 := ⟨(d - 1).toNat, by omega⟩
    go_enter Try.func18, Try.ntmps18
    go_wp2_with (first
      | (go_at_call 39; refine (in_yes _ _ _ _ (by omega) (by omega)).mono ?_; rintro e w' ⟨rfl, rfl⟩)
      | (go_at_call 41; refine (next_any _ _ _ _ (by omega) (by omega) (by omega) (by omega) (by omega) (by omega) _).mono ?_; rintro e w1 ⟨rfl, hb⟩))
    go_ret
    exact ⟨by rw [ND_nat _ _ _ _ (by omega) (by omega) (by omega) (by omega) (by omega) (by omega) (by omega)]; rfl, hb⟩

set_option maxHeartbeats 800000 in
theorem spec_NextDrop (lo hi c d : Int) (w : World) : Calls Try.prog 17 #[.int .i64 lo, .int .i64 hi, .int .i64 c, .int .i64 d] w fun e w' => e = .returned (.int .i64 (ND lo hi c d)) ∧ Below w.heap.size w w' := by
  rcases ND_cases lo hi c d with h | ⟨h1, h⟩ | ⟨h1, h2, h⟩ | ⟨h1, h2, h3, h⟩ | ⟨h1, h2, h3, h4, h⟩ | ⟨h1, h2, h3, h4, h5⟩
  iterate 5
    · go_enter Try.func17, Try.ntmps17
      go_wp2_with (first
        | (go_at_call 38; refine (l1In_yes _ _ _ _ (by omega) (by omega)).mono ?_; rintro e w' ⟨rfl, rfl⟩)
        | (go_at_call 38; refine (l1In_no _ _ _ _ (by omega)).mono ?_; rintro e w' ⟨rfl, rfl⟩))
      go_ret
      exact ⟨by rw [ND_out _ _ _ _ (by omega)]; rfl, Below.refl _ _⟩
  · have hA := TA_bd (c - 1) (d - 1)
    have hfin := ND_in lo hi c d ⟨h1, h2, h3, h4, h5⟩
    generalize ND lo hi c d = R at *
    have HF := Lib.hid hfin
    clear hfin
    go_enter Try.func17, Try.ntmps17
    go_wp2_with (first
      | (go_at_call 38; refine (l1In_yes _ _ _ _ (by omega) (by omega)).mono ?_; rintro e w' ⟨rfl, rfl⟩)
      | (go_at_call 15; refine (spec_ToldApart _ _ _).mono ?_; rintro e w1 ⟨rfl, hb⟩))
    all_goals
      go_ret
      exact ⟨ret_int (by rw [HF.out]; omega), hb⟩
end Go.Proofs.Ytpmbioeemkioaaa
