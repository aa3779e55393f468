/- Runs of prices: what the least sure sum is. No program is named here. -/
import Init
namespace Go.Proofs.Ytpdijlpdkdhgpaa

/-- the least sum, and the first that has it, of the first k guesses -/
def scn (xs : List Int) (c : Nat → Nat → Int) (a b : Nat) : Nat → Int × Nat
  | 0 => (-1, a)
  | k + 1 => if (scn xs c a b k).1 < 0 ∨ xs.getD (a + k) 0 + max (c a (a + k)) (c (a + k + 1) b) < (scn xs c a b k).1 then (xs.getD (a + k) 0 + max (c a (a + k)) (c (a + k + 1) b), a + k) else scn xs c a b k
theorem scn_congr {xs : List Int} {c d : Nat → Nat → Int} {a b : Nat} (h : ∀ i j, a ≤ i → j ≤ b → j - i < b - a → c i j = d i j) : ∀ k, k ≤ b - a → scn xs c a b k = scn xs d a b k
  | 0, _ => rfl
  | k + 1, hk => by
    rw [scn, scn, scn_congr h k (by omega), h a (a + k) (Nat.le_refl _) (by omega) (by omega), h (a + k + 1) b (by omega) (Nat.le_refl _) (by omega)]
def cst (xs : List Int) : Nat → Nat → Nat → Int
  | 0, _, _ => 0
  | f + 1, a, b => if b ≤ a + 1 then 0 else (scn xs (cst xs f) a b (b - a)).1
theorem cst_fuel (xs : List Int) : ∀ (f f' a b : Nat), b - a ≤ f → b - a ≤ f' → cst xs f a b = cst xs f' a b
  | 0, 0, _, _, _, _ => rfl
  | 0, f' + 1, a, b, h, _ => by rw [cst, cst, if_pos (by omega)]
  | f + 1, 0, a, b, _, h => by rw [cst, cst, if_pos (by omega)]
  | f + 1, f' + 1, a, b, h, h' => by
    rw [cst, cst]
    by_cases e : b ≤ a + 1
    · rw [if_pos e, if_pos e]
    · rw [if_neg e, if_neg e, scn_congr (fun i j _ _ hij => cst_fuel xs f f' i j (by omega) (by omega)) (b - a) (Nat.le_refl _)]
/-- what a run needs -/
def Cx (xs : List Int) (a b : Nat) : Int := cst xs (b - a) a b
theorem Cx_short {xs : List Int} {a b : Nat} (h : b ≤ a + 1) : Cx xs a b = 0 := by
  unfold Cx
  cases e : b - a with
  | zero => rfl
  | succ k => rw [cst, if_pos h]
theorem Cx_long {xs : List Int} {a b : Nat} (h : a + 2 ≤ b) : Cx xs a b = (scn xs (Cx xs) a b (b - a)).1 := by
  unfold Cx
  cases e : b - a with
  | zero => omega
  | succ k =>
    rw [cst, if_neg (by omega), e]
    rw [scn_congr (d := fun a b => cst xs (b - a) a b) (fun i j _ _ hij => cst_fuel xs k (j - i) i j (by omega) (Nat.le_refl _)) (k + 1) (by omega)]
/-- the first guess of a run -/
def Fx (xs : List Int) (a b : Nat) : Nat := if b ≤ a + 1 then a else (scn xs (Cx xs) a b (b - a)).2

theorem scn_bd {xs : List Int} {c : Nat → Nat → Int} {a b : Nat} {M : Int} (hx : ∀ j, 0 ≤ xs.getD j 0 ∧ xs.getD j 0 ≤ 50) (hc : ∀ i j, 0 ≤ c i j) (hM : ∀ i j, a ≤ i → j ≤ b → j - i < b - a → c i j ≤ M) :
    ∀ k, k ≤ b - a → (k = 0 ∧ scn xs c a b k = (-1, a)) ∨ (1 ≤ k ∧ 0 ≤ (scn xs c a b k).1 ∧ (scn xs c a b k).1 ≤ 50 + M ∧ a ≤ (scn xs c a b k).2 ∧ (scn xs c a b k).2 < a + k)
  | 0, _ => .inl ⟨rfl, rfl⟩
  | k + 1, hk => by
    right
    have ih := scn_bd hx hc hM k (by omega)
    have h1 := hx (a + k)
    have h2 := hc a (a + k)
    have h3 := hc (a + k + 1) b
    have h4 := hM a (a + k) (Nat.le_refl _) (by omega) (by omega)
    have h5 := hM (a + k + 1) b (by omega) (Nat.le_refl _) (by omega)
    rw [scn]
    by_cases e : (scn xs c a b k).1 < 0 ∨ xs.getD (a + k) 0 + max (c a (a + k)) (c (a + k + 1) b) < (scn xs c a b k).1
    · rw [if_pos e]
      simp only
      refine ⟨by omega, by omega, by omega, by omega, by omega⟩
    · rw [if_neg e]
      rcases ih with ⟨rfl, ih⟩ | ih
      · rw [ih] at e; simp only at e; omega
      · refine ⟨by omega, ih.2.1, ih.2.2.1, ih.2.2.2.1, by omega⟩
theorem Cx_bd {xs : List Int} (hx : ∀ j, 0 ≤ xs.getD j 0 ∧ xs.getD j 0 ≤ 50) : ∀ (n a b : Nat), b - a ≤ n → 0 ≤ Cx xs a b ∧ Cx xs a b ≤ 50 * n
  | 0, a, b, h => by rw [Cx_short (by omega)]; omega
  | n + 1, a, b, h => by
    by_cases e : b ≤ a + 1
    · rw [Cx_short e]; omega
    · rw [Cx_long (by omega), scn_congr (d := fun i j => if j - i ≤ n then Cx xs i j else 0) (fun i j _ _ hij => by rw [if_pos (by omega)]) (b - a) (Nat.le_refl _)]
      have hb := scn_bd (xs := xs) (c := fun i j => if j - i ≤ n then Cx xs i j else 0) (a := a) (b := b) (M := 50 * n) hx (fun i j => by
        by_cases e2 : j - i ≤ n
        · simp only [if_pos e2]; exact (Cx_bd hx n i j e2).1
        · simp only [if_neg e2]; omega) (fun i j _ _ hij => by
        have e2 : j - i ≤ n := by omega
        simp only [if_pos e2]; exact (Cx_bd hx n i j e2).2) (b - a) (Nat.le_refl _)
      rcases hb with ⟨h0, _⟩ | hb
      · omega
      · refine ⟨hb.2.1, ?_⟩
        have := hb.2.2.1
        rw [show ((n + 1 : Nat) : Int) = (n : Int) + 1 by omega, Int.mul_add]
        omega
end Go.Proofs.Ytpdijlpdkdhgpaa
