/- A number, drawn; the law FnLeastQuestions. -/
import Derived.Test.YtinbniphmbcpjaaProg
import Derived.Test.YtinbniphmbcpjaaTrees1
import Derived.Test.YtinbniphmbcpjaaDraw2
import Derived.Deep.RegionWith
namespace Go.Proofs.Ytinbniphmbcpjaa
open Go.RowKit

theorem below_pick {w w1 w2 : World} {R : Nat} (h : Below w.heap.size w w1) (g : w1.grownBy w2 (some R)) (hR : w.heap.size ≤ R) : Below w.heap.size w w2 :=
  h.grown g h.size (fun k hk => by cases hk; exact hR)

/-- A number is drawn. -/
def DrewOne (lo hi : Int) (w : World) (e : Ending) (w' : World) : Prop := ∃ x : Int, e = .returned (.int .i64 x) ∧ lo ≤ x ∧ x ≤ hi ∧ Below w.heap.size w w'

set_option maxHeartbeats 8000000 in
theorem spec_DrawLeastQuestions (a : Option Addr) (len cap : Nat) (w : World) (h : Code8 w a len cap) :
    Calls Try.prog 17 #[.slice a len cap] w (DrewOne (-10) 2000000 w) := by
  go_enter Try.func17, Try.ntmps17
  go_wp2_with fail
  refine (open_any a len cap _ h).mono ?_
  rintro e w1 ⟨rfl, hr1, hb1⟩
  obtain ⟨bs, hr⟩ := RdB.of_rdr hr1
  clear hr1
  obtain ⟨v0, e0⟩ : ∃ v, v = val bs 0 20 := ⟨_, rfl⟩
  obtain ⟨v1, e1⟩ : ∃ v, v = val bs 1 20 := ⟨_, rfl⟩
  obtain ⟨v2, e2⟩ : ∃ v, v = val bs 2 3 := ⟨_, rfl⟩
  obtain ⟨v3, e3⟩ : ∃ v, v = val bs 3 250 := ⟨_, rfl⟩
  obtain ⟨v4, e4⟩ : ∃ v, v = val bs 4 250 := ⟨_, rfl⟩
  obtain ⟨v5, e5⟩ : ∃ v, v = val bs 5 5 := ⟨_, rfl⟩
  have l0 : 0 ≤ v0 := by rw [e0]; exact val_lo _ _ _ (by omega)
  have u0 : v0 < 20 := by rw [e0]; exact val_hi _ _ _ (by omega)
  have l1 : 0 ≤ v1 := by rw [e1]; exact val_lo _ _ _ (by omega)
  have u1 : v1 < 20 := by rw [e1]; exact val_hi _ _ _ (by omega)
  have l2 : 0 ≤ v2 := by rw [e2]; exact val_lo _ _ _ (by omega)
  have u2 : v2 < 3 := by rw [e2]; exact val_hi _ _ _ (by omega)
  have l3 : 0 ≤ v3 := by rw [e3]; exact val_lo _ _ _ (by omega)
  have u3 : v3 < 250 := by rw [e3]; exact val_hi _ _ _ (by omega)
  have l4 : 0 ≤ v4 := by rw [e4]; exact val_lo _ _ _ (by omega)
  have u4 : v4 < 250 := by rw [e4]; exact val_hi _ _ _ (by omega)
  have l5 : 0 ≤ v5 := by rw [e5]; exact val_lo _ _ _ (by omega)
  have u5 : v5 < 5 := by rw [e5]; exact val_hi _ _ _ (by omega)
  have c0 := ask (R := w.heap.size) 0 e0 (by omega) (by omega) (by omega)
  have c1 := ask (R := w.heap.size) 1 e1 (by omega) (by omega) (by omega)
  have c2 := ask (R := w.heap.size) 2 e2 (by omega) (by omega) (by omega)
  have c3 := ask (R := w.heap.size) 3 e3 (by omega) (by omega) (by omega)
  have c4 := ask (R := w.heap.size) 4 e4 (by omega) (by omega) (by omega)
  have c5 := ask (R := w.heap.size) 5 e5 (by omega) (by omega) (by omega)
  clear e0 e1 e2 e3 e4 e5
  obtain ⟨q, hq⟩ : ∃ q : Nat, v1 = q := ⟨v1.toNat, by omega⟩
  subst hq
  obtain ⟨P2, hP2⟩ : ∃ P : Nat, P = 2 ^ q := ⟨_, rfl⟩
  have hPb : P2 ≤ 524288 := by
    have : 2 ^ q ≤ 2 ^ 19 := Nat.pow_le_pow_right (by omega) (by omega)
    omega
  have hPc : ((2 : Int) ^ q) = (P2 : Int) := by rw [hP2]; simp
  have hw1 : IntKind.i64.wrap ((2 : Int) ^ q) = (P2 : Int) := by rw [hPc]; exact IntWalk.i64_in _ (by omega)
  have hw2 : IntKind.i64.wrap ((P2 : Int) + v2) = P2 + v2 := IntWalk.i64_in _ (by omega)
  have hw3 : IntKind.i64.wrap ((P2 : Int) + v2 - 1) = P2 + v2 - 1 := IntWalk.i64_in _ (by omega)
  have e1 := Int.mul_nonneg l3 l4
  have e2 : v3 * v4 ≤ 250 * 250 := Int.mul_le_mul (by omega) (by omega) (by omega) (by omega)
  have hw4 : IntKind.i64.wrap (v3 * v4) = v3 * v4 := IntWalk.i64_in _ (by omega)
  clear hP2 hPc
  go_wp2_with fail
  obtain rfl | rfl | rfl | rfl | rfl : v5 = 0 ∨ v5 = 1 ∨ v5 = 2 ∨ v5 = 3 ∨ v5 = 4 := by omega
  all_goals
    go_region_with (first
      | (go_at_call 26; (with_reducible refine (c0.out _ (by first | assumption | exact RdB.drew (by assumption) | exact RdB.alloc (by assumption) _ | exact RdB.drew (RdB.alloc (by assumption) _))).mono ?_); rintro e w2 ⟨rfl, hr2, hg2, hc2, hs2, hn2⟩)
      | (go_at_call 26; (with_reducible refine (c1.out _ (by first | assumption | exact RdB.drew (by assumption) | exact RdB.alloc (by assumption) _ | exact RdB.drew (RdB.alloc (by assumption) _))).mono ?_); rintro e w3 ⟨rfl, hr3, hg3, hc3, hs3, hn3⟩)
      | (go_at_call 26; (with_reducible refine (c2.out _ (by first | assumption | exact RdB.drew (by assumption) | exact RdB.alloc (by assumption) _ | exact RdB.drew (RdB.alloc (by assumption) _))).mono ?_); rintro e w4 ⟨rfl, hr4, hg4, hc4, hs4, hn4⟩)
      | (go_at_call 26; (with_reducible refine (c3.out _ (by first | assumption | exact RdB.drew (by assumption) | exact RdB.alloc (by assumption) _ | exact RdB.drew (RdB.alloc (by assumption) _))).mono ?_); rintro e w5 ⟨rfl, hr5, hg5, hc5, hs5, hn5⟩)
      | (go_at_call 26; (with_reducible refine (c4.out _ (by first | assumption | exact RdB.drew (by assumption) | exact RdB.alloc (by assumption) _ | exact RdB.drew (RdB.alloc (by assumption) _))).mono ?_); rintro e w6 ⟨rfl, hr6, hg6, hc6, hs6, hn6⟩)
      | (go_at_call 26; (with_reducible refine (c5.out _ (by first | assumption | exact RdB.drew (by assumption) | exact RdB.alloc (by assumption) _ | exact RdB.drew (RdB.alloc (by assumption) _))).mono ?_); rintro e w7 ⟨rfl, hr7, hg7, hc7, hs7, hn7⟩))
    all_goals
      go_wp2_with fail
      go_ret
      refine ⟨_, rfl, by omega, by omega, ?_⟩
      repeat (first | exact hb1 | (refine below_pick ?_ (by assumption) (Nat.le_refl _)) | refine Below.drew ?_ | refine Below.alloc ?_ (Nat.le_of_lt (RdB.lt (by assumption))) _)

end Go.Proofs.Ytinbniphmbcpjaa
