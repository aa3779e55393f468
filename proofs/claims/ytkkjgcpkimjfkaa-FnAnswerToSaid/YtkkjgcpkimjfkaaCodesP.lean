/- Plain facts of answers. -/
import Derived.Test.YtkkjgcpkimjfkaaProg
import Derived.Test.YtkkjgcpkimjfkaaCodes3
namespace Go.Proofs.Ytkkjgcpkimjfkaa

/-- the digits of a number to the base 4 -/
def dig : Nat → Nat → List Int
  | 0, _ => []
  | n + 1, k => (((k % 4 : Nat) : Int)) :: dig n (k / 4)
def chk1 (n : Nat) (xs ys : List Int) : Bool := Nat.ble (com xs ys n 5) n && (!Nat.beq (eqs xs ys n + 1) n || Nat.beq (com xs ys n 5) (eqs xs ys n))
def chk (n m : Nat) : Bool := (List.range m).all fun i => (List.range m).all fun j => chk1 n (dig n i) (dig n j)
theorem chk_1 : chk 1 4 = true := by decide +kernel
theorem chk_2 : chk 2 16 = true := by decide +kernel
theorem chk_3 : chk 3 64 = true := by decide +kernel
theorem dig_of : ∀ (n : Nat) (xs : List Int), xs.length = n → (∀ x ∈ xs, 0 ≤ x ∧ x < 4) → ∃ i, i < 4 ^ n ∧ xs = dig n i
  | 0, xs, h, _ => ⟨0, by simp, by rw [List.eq_nil_of_length_eq_zero h]; rfl⟩
  | n + 1, [], h, _ => by simp at h
  | n + 1, x :: r, h, hb => by
    obtain ⟨i, hi, hr⟩ := dig_of n r (by simpa using h) (fun y hy => hb y (by simp [hy]))
    obtain ⟨h1, h2⟩ := hb x (by simp)
    obtain ⟨m, rfl⟩ := Int.eq_ofNat_of_zero_le h1
    refine ⟨m + 4 * i, by rw [Nat.pow_succ]; omega, ?_⟩
    rw [dig, show (m + 4 * i) % 4 = m by omega, show (m + 4 * i) / 4 = i by omega, ← hr]
theorem chk_all {n : Nat} (h1 : 1 ≤ n) (h3 : n ≤ 3) : chk n (4 ^ n) = true := by
  obtain rfl | rfl | rfl : n = 1 ∨ n = 2 ∨ n = 3 := by omega
  · exact chk_1
  · exact chk_2
  · exact chk_3
theorem answer_facts {n : Nat} {xs ys : List Int} (h1 : 1 ≤ n) (h3 : n ≤ 3) (hx : xs.length = n) (hy : ys.length = n) (bx : ∀ x ∈ xs, 0 ≤ x ∧ x < 4) (by_ : ∀ y ∈ ys, 0 ≤ y ∧ y < 4) :
    com xs ys n 5 ≤ n ∧ (eqs xs ys n + 1 = n → com xs ys n 5 = eqs xs ys n) := by
  obtain ⟨i, hi, rfl⟩ := dig_of n xs hx bx
  obtain ⟨j, hj, rfl⟩ := dig_of n ys hy by_
  have h := chk_all h1 h3
  unfold chk at h
  simp only [List.all_eq_true, List.mem_range] at h
  have h := h i hi j hj
  unfold chk1 at h
  simp only [Bool.and_eq_true, Bool.or_eq_true, Bool.not_eq_true'] at h
  refine ⟨Nat.le_of_ble_eq_true h.1, fun e => ?_⟩
  rcases h.2 with h2 | h2
  · rw [e, Nat.beq_refl] at h2; cases h2
  · exact Nat.eq_of_beq_eq_true h2
theorem eqs_comm (xs ys : List Int) : ∀ k, eqs ys xs k = eqs xs ys k
  | 0 => rfl
  | k + 1 => by
    rw [eqs, eqs, eqs_comm xs ys k]
    by_cases e : xs.getD k 0 = ys.getD k 0
    · rw [if_pos e, if_pos e.symm]
    · rw [if_neg e, if_neg (fun h => e h.symm)]
theorem com_comm (xs ys : List Int) (n : Nat) : ∀ c, com ys xs n c = com xs ys n c
  | 0 => rfl
  | c + 1 => by rw [com, com, com_comm xs ys n c, Nat.min_comm]
theorem eqs_all {xs ys : List Int} : ∀ {k}, eqs xs ys k = k → ∀ j, j < k → xs.getD j 0 = ys.getD j 0
  | 0, _, j, hj => by omega
  | k + 1, h, j, hj => by
    rw [eqs] at h
    have := eqs_le xs ys k
    by_cases e : xs.getD k 0 = ys.getD k 0
    · rw [if_pos e] at h
      by_cases ej : j = k
      · subst ej; exact e
      · exact eqs_all (k := k) (by omega) j (by omega)
    · rw [if_neg e] at h; omega
theorem eqs_self (xs : List Int) : ∀ k, eqs xs xs k = k
  | 0 => rfl
  | k + 1 => by rw [eqs, eqs_self xs k, if_pos rfl]
theorem eqs_full {n : Nat} {xs ys : List Int} (hx : xs.length = n) (hy : ys.length = n) : eqs xs ys n = n ↔ xs = ys := by
  constructor
  · intro h
    apply List.ext_getElem (hx.trans hy.symm)
    intro i h1 h2
    have := eqs_all h i (by omega)
    rwa [List.getD_eq_getElem?_getD, List.getD_eq_getElem?_getD, List.getElem?_eq_getElem h1, List.getElem?_eq_getElem h2] at this
  · intro h; subst h; exact eqs_self xs n
end Go.Proofs.Ytkkjgcpkimjfkaa
