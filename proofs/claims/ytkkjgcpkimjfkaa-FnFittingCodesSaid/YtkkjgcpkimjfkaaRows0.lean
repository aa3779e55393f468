/- All rows of so many numbers, each less than a number; the plain laws. No program is named here. -/
import Init
namespace Go.Proofs.Ytkkjgcpkimjfkaa

/-- all rows that go on from p by k numbers, each less than c -/
def ext (c : Nat) : Nat → List Int → List (List Int)
  | 0, p => [p]
  | k + 1, p => (List.range c).flatMap (fun n : Nat => ext c k (p ++ [(n : Int)]))
/-- each row goes on by one number -/
def grow (c : Nat) (rows : List (List Int)) : List (List Int) := rows.flatMap (fun r => (List.range c).map (fun n : Nat => r ++ [(n : Int)]))

theorem flatMap_single {α β : Type} (f : α → β) : ∀ l : List α, l.flatMap (fun x => [f x]) = l.map f
  | [] => rfl
  | x :: l => by rw [List.flatMap_cons, flatMap_single f l]; rfl
theorem ext_grow (c : Nat) : ∀ (k : Nat) (p : List Int), ext c (k + 1) p = grow c (ext c k p)
  | 0, p => by
    simp only [ext, grow, List.flatMap_cons, List.flatMap_nil, List.append_nil]
    exact flatMap_single (fun n : Nat => p ++ [(n : Int)]) (List.range c)
  | k + 1, p => by
    have ih := fun n : Nat => ext_grow c k (p ++ [(n : Int)])
    rw [ext]
    simp only [ih]
    rw [show ext c (k + 1) p = (List.range c).flatMap (fun n : Nat => ext c k (p ++ [(n : Int)])) from rfl]
    unfold grow
    rw [List.flatMap_assoc]
theorem ext_len (c : Nat) : ∀ (k : Nat) (p : List Int) (r : List Int), r ∈ ext c k p → r.length = p.length + k
  | 0, p, r, h => by simp only [ext, List.mem_singleton] at h; subst h; rfl
  | k + 1, p, r, h => by
    simp only [ext, List.mem_flatMap] at h
    obtain ⟨n, _, hr⟩ := h
    have := ext_len c k _ r hr
    rw [this]; simp; omega
theorem ext_in (c : Nat) : ∀ (k : Nat) (p : List Int) (r : List Int), (∀ x ∈ p, 0 ≤ x ∧ x < (c : Int)) → r ∈ ext c k p → ∀ x ∈ r, 0 ≤ x ∧ x < (c : Int)
  | 0, p, r, hp, h => by simp only [ext, List.mem_singleton] at h; subst h; exact hp
  | k + 1, p, r, hp, h => by
    simp only [ext, List.mem_flatMap, List.mem_range] at h
    obtain ⟨n, hn, hr⟩ := h
    refine ext_in c k _ r (fun x hx => ?_) hr
    rcases List.mem_append.1 hx with hx | hx
    · exact hp x hx
    · rw [List.mem_singleton] at hx; subst hx; omega
/-- what has come when the first n of the numbers are over -/
def extTo (c k : Nat) (p : List Int) (n : Nat) : List (List Int) := (List.range n).flatMap (fun m : Nat => ext c k (p ++ [(m : Int)]))
theorem extTo_zero (c k : Nat) (p : List Int) : extTo c k p 0 = [] := rfl
theorem extTo_succ (c k : Nat) (p : List Int) (n : Nat) : extTo c k p (n + 1) = extTo c k p n ++ ext c k (p ++ [(n : Int)]) := by
  unfold extTo
  rw [List.range_succ, List.flatMap_append]
  simp
theorem extTo_all (c k : Nat) (p : List Int) : extTo c k p c = ext c (k + 1) p := rfl
/-- what the reference model has when n rows, and of the next one m numbers, are over -/
def growTo (c : Nat) (rows : List (List Int)) (n m : Nat) : List (List Int) := grow c (rows.take n) ++ (List.range m).map (fun x : Nat => rows.getD n [] ++ [(x : Int)])
theorem growTo_zero (c : Nat) (rows : List (List Int)) (n : Nat) : growTo c rows n 0 = grow c (rows.take n) := by simp [growTo]
theorem growTo_succ (c : Nat) (rows : List (List Int)) (n m : Nat) : growTo c rows n (m + 1) = growTo c rows n m ++ [rows.getD n [] ++ [(m : Int)]] := by
  unfold growTo
  rw [List.range_succ, List.map_append, List.append_assoc]
  rfl
theorem growTo_row (c : Nat) (rows : List (List Int)) (n : Nat) (h : n < rows.length) : growTo c rows n c = grow c (rows.take (n + 1)) := by
  unfold growTo grow
  rw [List.take_add_one, List.flatMap_append, List.getD_eq_getElem?_getD, List.getElem?_eq_getElem h]
  simp
theorem grow_take_all (c : Nat) (rows : List (List Int)) : grow c (rows.take rows.length) = grow c rows := by rw [List.take_length]
theorem grow_len (c : Nat) (rows : List (List Int)) : (grow c rows).length = rows.length * c := by
  induction rows with
  | nil => simp [grow]
  | cons r rows ih =>
    unfold grow at ih ⊢
    rw [List.flatMap_cons, List.length_append, ih]
    simp
    rw [Nat.add_mul]; omega
theorem ext_count (c : Nat) : ∀ (k : Nat) (p : List Int), (ext c k p).length = c ^ k
  | 0, p => rfl
  | k + 1, p => by rw [ext_grow, grow_len, ext_count c k p, Nat.pow_succ]
theorem extTo_len (c k : Nat) (p : List Int) : ∀ n, (extTo c k p n).length = n * c ^ k
  | 0 => by simp [extTo_zero]
  | n + 1 => by rw [extTo_succ, List.length_append, extTo_len c k p n, ext_count c k, Nat.succ_mul]
theorem growTo_len (c : Nat) (rows : List (List Int)) (n m : Nat) (hn : n ≤ rows.length) : (growTo c rows n m).length = n * c + m := by
  unfold growTo
  rw [List.length_append, grow_len, List.length_take, Nat.min_eq_left hn]
  simp

/-- no row is there twice, one behind the other -/
theorem ext_apart (c k i : Nat) (hc : c ≤ 5) (hk : k ≤ 3) (h1 : 1 ≤ i) (hi : i < (ext c k []).length) : (ext c k []).getD i [] ≠ (ext c k []).getD (i - 1) [] := by
  have key : ∀ c : Fin 6, ∀ k : Fin 4, ∀ i : Fin 125, 1 ≤ i.val → i.val < (ext c.val k.val []).length → (ext c.val k.val []).getD i.val [] ≠ (ext c.val k.val []).getD (i.val - 1) [] := by decide +kernel
  have hl : (ext c k []).length ≤ 125 := by
    rw [ext_count]
    calc c ^ k ≤ 5 ^ k := Nat.pow_le_pow_left hc k
      _ ≤ 5 ^ 3 := Nat.pow_le_pow_right (by omega) hk
  exact key ⟨c, by omega⟩ ⟨k, by omega⟩ ⟨i, by omega⟩ h1 hi
end Go.Proofs.Ytkkjgcpkimjfkaa
