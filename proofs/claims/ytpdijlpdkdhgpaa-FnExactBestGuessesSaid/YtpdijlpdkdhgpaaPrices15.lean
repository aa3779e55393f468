/- The text of the best way for a run of prices; the plain laws. -/
import Derived.Test.YtpdijlpdkdhgpaaPrices0
namespace Go.Proofs.Ytpdijlpdkdhgpaa

theorem Fx_in {xs : List Int} (hx : ∀ j, 0 ≤ xs.getD j 0 ∧ xs.getD j 0 ≤ 50) {a b : Nat} (h : a < b) : a ≤ Fx xs a b ∧ Fx xs a b < b := by
  unfold Fx
  by_cases e : b ≤ a + 1
  · rw [if_pos e]; omega
  · rw [if_neg e]
    have hsb := scn_bd (xs := xs) (c := Cx xs) (a := a) (b := b) (M := 50 * ((b - a : Nat) : Int)) hx (fun i j => (Cx_bd hx (j - i) i j (Nat.le_refl _)).1) (fun i j _ _ hij => by have := (Cx_bd hx (j - i) i j (Nat.le_refl _)).2; omega) (b - a) (Nat.le_refl _)
    rcases hsb with ⟨h0, _⟩ | h
    · omega
    · omega

/-- the digit of a number -/
def dig (k : Nat) : UInt8 := UInt8.ofNat (48 + k)
theorem dig_toNat (k : Nat) (h : k < 10) : (dig k).toNat = 48 + k := by unfold dig; simp; omega
/-- the text of the best way for a run -/
def Tx (xs : List Int) : Nat → Nat → Nat → List UInt8
  | 0, _, _ => [46]
  | f + 1, a, b => if b ≤ a then [46] else 40 :: (Tx xs f a (Fx xs a b) ++ (dig (Fx xs a b) :: (Tx xs f (Fx xs a b + 1) b ++ [41])))
theorem Tx_short {xs : List Int} {f a b : Nat} (h : b ≤ a) : Tx xs f a b = [46] := by
  cases f with
  | zero => rfl
  | succ f => rw [Tx, if_pos h]
theorem Tx_long {xs : List Int} {f a b : Nat} (h : a < b) : Tx xs (f + 1) a b = 40 :: (Tx xs f a (Fx xs a b) ++ (dig (Fx xs a b) :: (Tx xs f (Fx xs a b + 1) b ++ [41]))) := by
  rw [Tx, if_neg (by omega)]
theorem Tx_len {xs : List Int} (hx : ∀ j, 0 ≤ xs.getD j 0 ∧ xs.getD j 0 ≤ 50) : ∀ (f a b : Nat), b - a ≤ f → a ≤ b → (Tx xs f a b).length = 4 * (b - a) + 1
  | 0, a, b, h, h2 => by
    have : b - a = 0 := by omega
    rw [this]; rfl
  | f + 1, a, b, h, h2 => by
    by_cases e : b ≤ a
    · rw [Tx_short e]; simp; omega
    · have hF := Fx_in hx (show a < b by omega)
      rw [Tx_long (by omega)]
      have h3 := Tx_len hx f a (Fx xs a b) (by omega) hF.1
      have h4 := Tx_len hx f (Fx xs a b + 1) b (by omega) (by omega)
      simp only [List.length_cons, List.length_append, List.length_nil, h3, h4]
      omega
end Go.Proofs.Ytpdijlpdkdhgpaa
