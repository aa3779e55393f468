/- WorstOf and CostOf, both; the laws FnExactWorstOf and FnExactCostOf. -/
import Derived.Test.YtbmppbhomlnnnaaProg
import Derived.Test.YtbmppbhomlnnnaaTreeK
import Derived.Test.YtbmppbhomlnnnaaOften
namespace Go.Proofs.Ytbmppbhomlnnnaa
open Go.RowKit

/-- the greatest of the first k numbers, -1 if there is none -/
def WL (L : List Int) : Nat → Int
  | 0 => -1
  | k + 1 => max (WL L k) (L.getD k 0)
theorem WL_DL (n : Nat) (t : T) : ∀ k, k ≤ n → WL (DL n t) k = WO t k
  | 0, _ => rfl
  | k + 1, h => by rw [WL, WO, WL_DL n t k (by omega), DL_getD n t k (by omega)]
def WF (n : Int) (l : List UInt8) : Int := match TO n l with | some t => WO t n.toNat | none => -1
theorem WF_none {n : Int} {l : List UInt8} (h : TO n l = none) : WF n l = -1 := by unfold WF; rw [h]
theorem WF_some {n : Int} {l : List UInt8} {t : T} (h : TO n l = some t) : WF n l = WO t n.toNat := by unfold WF; rw [h]
theorem WF_DO (n : Int) (l : List UInt8) : WL (DO n l) (DO n l).length = WF n l := by
  cases h : TO n l with
  | none => rw [DO_none h, WF_none h]; rfl
  | some t => rw [DO_some h, WF_some h, DL_length, WL_DL _ _ _ (Nat.le_refl _)]
theorem DO_bd (n : Int) (l : List UInt8) : (DO n l).length ≤ 14 ∧ ∀ j, j < (DO n l).length → 0 ≤ (DO n l).getD j 0 ∧ (DO n l).getD j 0 ≤ 14 := by
  cases h : TO n l with
  | none => rw [DO_none h]; simp
  | some t =>
    have h1 := TO_some.1 h
    have h2 := h1.1
    rw [DO_some h, DL_length]
    refine ⟨by omega, fun j hj => ?_⟩
    rw [DL_getD _ _ _ hj]
    have := dep_lt h1.2.2 j
    omega
theorem WL_bd {L : List Int} (h : ∀ j, j < L.length → 0 ≤ L.getD j 0 ∧ L.getD j 0 ≤ 14) : ∀ k, k ≤ L.length → -1 ≤ WL L k ∧ WL L k ≤ 14
  | 0, _ => by simp [WL]
  | k + 1, hk => by
    have h1 := WL_bd h k (by omega)
    have h2 := h k (by omega)
    rw [WL]
    omega




end Go.Proofs.Ytbmppbhomlnnnaa
