/- Plain laws of the least sure sum. No program is named here. -/
import Derived.Test.YtpdijlpdkdhgpaaPrices0
namespace Go.Proofs.Ytpdijlpdkdhgpaa

/-- what a run needs if it is begun with g -/
def cand (xs : List Int) (a b g : Nat) : Int := xs.getD g 0 + max (Cx xs a g) (Cx xs (g + 1) b)
theorem scn_min {xs : List Int} {a b : Nat} (h0 : ∀ g, 0 ≤ cand xs a b g) : ∀ k, (∀ i, i < k → (scn xs (Cx xs) a b k).1 ≤ cand xs a b (a + i)) ∧ (1 ≤ k → 0 ≤ (scn xs (Cx xs) a b k).1 ∧ ∃ i, i < k ∧ (scn xs (Cx xs) a b k).1 = cand xs a b (a + i))
  | 0 => ⟨fun i hi => by omega, fun h => by omega⟩
  | k + 1 => by
    obtain ⟨h1, h2⟩ := scn_min h0 k
    have hc := h0 (a + k)
    have e : scn xs (Cx xs) a b (k + 1) = if (scn xs (Cx xs) a b k).1 < 0 ∨ cand xs a b (a + k) < (scn xs (Cx xs) a b k).1 then (cand xs a b (a + k), a + k) else scn xs (Cx xs) a b k := rfl
    rw [e]
    by_cases hu : (scn xs (Cx xs) a b k).1 < 0 ∨ cand xs a b (a + k) < (scn xs (Cx xs) a b k).1
    · rw [if_pos hu]
      refine ⟨fun i hi => ?_, fun _ => ⟨hc, k, by omega, rfl⟩⟩
      simp only
      by_cases ei : i = k
      · subst ei; exact Int.le_refl _
      · have h3 := h1 i (by omega)
        have h4 := (h2 (by omega)).1
        omega
    · rw [if_neg hu]
      refine ⟨fun i hi => ?_, fun _ => ?_⟩
      · by_cases ei : i = k
        · subst ei; omega
        · exact h1 i (by omega)
      · by_cases hk : k = 0
        · subst hk
          exact absurd (Or.inl (show (scn xs (Cx xs) a b 0).1 < 0 by rw [scn]; simp)) hu
        · obtain ⟨h4, i, hi, h5⟩ := h2 (by omega)
          exact ⟨h4, i, by omega, h5⟩
section
variable {xs : List Int} (hx : ∀ j, 0 ≤ xs.getD j 0 ∧ xs.getD j 0 ≤ 50)
include hx
theorem Cx_nn (a b : Nat) : 0 ≤ Cx xs a b := (Cx_bd hx (b - a) a b (Nat.le_refl _)).1
theorem cand_nn (a b g : Nat) : 0 ≤ cand xs a b g := by
  have h1 := (hx g).1
  have h2 := Cx_nn hx a g
  unfold cand
  omega
theorem Cx_le {a b g : Nat} (h : a + 2 ≤ b) (hg : a ≤ g) (hg2 : g < b) : Cx xs a b ≤ cand xs a b g := by
  rw [Cx_long h]
  have := (scn_min (cand_nn hx a b) (b - a)).1 (g - a) (by omega)
  rwa [show a + (g - a) = g by omega] at this
theorem Cx_is {a b : Nat} (h : a + 2 ≤ b) : ∃ g, a ≤ g ∧ g < b ∧ Cx xs a b = cand xs a b g := by
  obtain ⟨_, i, hi, e⟩ := (scn_min (cand_nn hx a b) (b - a)).2 (by omega)
  exact ⟨a + i, by omega, by omega, by rw [Cx_long h]; exact e⟩
/-- A run without its first number needs no more. -/
theorem Cx_tail : ∀ (m a b : Nat), b - a ≤ m → Cx xs (a + 1) b ≤ Cx xs a b
  | 0, a, b, h => by rw [Cx_short (by omega)]; exact Cx_nn hx a b
  | m + 1, a, b, h => by
    by_cases e : b ≤ a + 2
    · rw [Cx_short (by omega)]; exact Cx_nn hx a b
    · obtain ⟨g, g1, g2, eg⟩ := Cx_is hx (a := a) (b := b) (by omega)
      rw [eg]
      by_cases ea : g = a
      · subst ea
        have := (hx g).1
        unfold cand
        omega
      · have h1 := Cx_le hx (a := a + 1) (b := b) (g := g) (by omega) (by omega) g2
        have h2 := Cx_tail m a g (by omega)
        unfold cand at h1 ⊢
        omega
end
/-- The same prices elsewhere need the same. -/
theorem Cx_map {xs ys : List Int} (hx : ∀ j, 0 ≤ xs.getD j 0 ∧ xs.getD j 0 ≤ 50) (hy : ∀ j, 0 ≤ ys.getD j 0 ∧ ys.getD j 0 ≤ 50) (d : Nat) (n : Nat) (he : ∀ j, j < n → ys.getD j 0 = xs.getD (j + d) 0) :
    ∀ (m a b : Nat), b - a ≤ m → b ≤ n → Cx ys a b = Cx xs (a + d) (b + d)
  | 0, a, b, h, _ => by rw [Cx_short (by omega), Cx_short (by omega)]
  | m + 1, a, b, h, hb => by
    by_cases e : b ≤ a + 1
    · rw [Cx_short e, Cx_short (by omega)]
    · have hc : ∀ g, a ≤ g → g < b → cand ys a b g = cand xs (a + d) (b + d) (g + d) := by
        intro g g1 g2
        unfold cand
        rw [he g (by omega), Cx_map hx hy d n he m a g (by omega) (by omega), Cx_map hx hy d n he m (g + 1) b (by omega) hb, show g + 1 + d = g + d + 1 by omega]
      obtain ⟨g, g1, g2, eg⟩ := Cx_is hy (a := a) (b := b) (by omega)
      obtain ⟨f, f1, f2, ef⟩ := Cx_is hx (a := a + d) (b := b + d) (by omega)
      have h1 := Cx_le hx (a := a + d) (b := b + d) (g := g + d) (by omega) (by omega) (by omega)
      have h2 := Cx_le hy (a := a) (b := b) (g := f - d) (by omega) (by omega) (by omega)
      rw [hc (f - d) (by omega) (by omega), show f - d + d = f by omega] at h2
      rw [hc g g1 g2] at eg
      omega
/-- The prices in the other order need the same. -/
theorem Cx_rev {xs ys : List Int} (hx : ∀ j, 0 ≤ xs.getD j 0 ∧ xs.getD j 0 ≤ 50) (hy : ∀ j, 0 ≤ ys.getD j 0 ∧ ys.getD j 0 ≤ 50) (n : Nat) (he : ∀ j, j < n → ys.getD j 0 = xs.getD (n - 1 - j) 0) :
    ∀ (m a b : Nat), b - a ≤ m → b ≤ n → Cx ys a b = Cx xs (n - b) (n - a)
  | 0, a, b, h, _ => by rw [Cx_short (by omega), Cx_short (by omega)]
  | m + 1, a, b, h, hb => by
    by_cases e : b ≤ a + 1
    · rw [Cx_short e, Cx_short (by omega)]
    · have hc : ∀ g, a ≤ g → g < b → cand ys a b g = cand xs (n - b) (n - a) (n - 1 - g) := by
        intro g g1 g2
        unfold cand
        rw [he g (by omega), Cx_rev hx hy n he m a g (by omega) (by omega), Cx_rev hx hy n he m (g + 1) b (by omega) hb, show n - 1 - g + 1 = n - g by omega, show n - (g + 1) = n - 1 - g by omega]
        omega
      obtain ⟨g, g1, g2, eg⟩ := Cx_is hy (a := a) (b := b) (by omega)
      obtain ⟨f, f1, f2, ef⟩ := Cx_is hx (a := n - b) (b := n - a) (by omega)
      have h1 := Cx_le hx (a := n - b) (b := n - a) (g := n - 1 - g) (by omega) (by omega) (by omega)
      have h2 := Cx_le hy (a := a) (b := b) (g := n - 1 - f) (by omega) (by omega) (by omega)
      rw [hc (n - 1 - f) (by omega) (by omega), show n - 1 - (n - 1 - f) = f by omega] at h2
      rw [hc g g1 g2] at eg
      omega
/-- the sum of the first k numbers from a on -/
def sumF (xs : List Int) (a : Nat) : Nat → Int
  | 0 => 0
  | k + 1 => xs.getD a 0 + sumF xs (a + 1) k
/-- Guessing upward does. -/
theorem Cx_up {xs : List Int} (hx : ∀ j, 0 ≤ xs.getD j 0 ∧ xs.getD j 0 ≤ 50) : ∀ (k a : Nat), Cx xs a (a + 1 + k) ≤ sumF xs a k
  | 0, a => by rw [Cx_short (by omega)]; exact Int.le_refl _
  | k + 1, a => by
    have h1 := Cx_le hx (a := a) (b := a + 1 + (k + 1)) (g := a) (by omega) (Nat.le_refl _) (by omega)
    have h2 := Cx_up hx k (a + 1)
    have h3 := Cx_short (xs := xs) (a := a) (b := a) (by omega)
    have h4 := Cx_nn hx (a + 1) (a + 1 + (k + 1))
    unfold cand at h1
    rw [h3, show a + 1 + (k + 1) = a + 1 + 1 + k by omega] at h1
    rw [show a + 1 + (k + 1) = a + 1 + 1 + k by omega] at h4 ⊢
    rw [sumF]
    omega
end Go.Proofs.Ytpdijlpdkdhgpaa
