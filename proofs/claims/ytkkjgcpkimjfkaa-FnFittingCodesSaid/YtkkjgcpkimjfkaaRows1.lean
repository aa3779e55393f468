/- Slices of rows of numbers: read ('RdT'), and owned, row by row ('OwR'). -/
import Derived.Test.YtkkjgcpkimjfkaaProg
import Derived.Test.YtkkjgcpkimjfkaaSlices
import Derived.Test.YtkkjgcpkimjfkaaGrow
import Derived.Maps.AppendAt
import Derived.Deep.AppendLies
namespace Go.Proofs.Ytkkjgcpkimjfkaa
open Go.RowKit

theorem YtkkjgcpkimjfkaainfoSl : (Try.prog.info? 22).map (fun i => (i.zero, i.size, i.bytes)) = some (some (.slice none 0 0), 1, 24) := by kernel_rfl

/-- the nil row -/
def nilS : Value := .slice none 0 0

/-- v is a slice of rows, which can be read in w. -/
def RdT (w : World) (v : Value) (rows : List (List Int)) : Prop :=
  ∃ a cap, v = .slice a rows.length cap ∧ rows.length ≤ maxLen ∧ (rows ≠ [] → ∃ g off, a = some ⟨g, off, none⟩ ∧ ∀ j, j < rows.length → ∃ u, w.cell? ⟨g, off + j, none⟩ = some u ∧ Rd w u (rows.getD j []))

theorem RdT.below {w w' : World} {v : Value} {rows : List (List Int)} (h : RdT w v rows) (b : Below w.heap.size w w') : RdT w' v rows := by
  obtain ⟨a, cap, e, hm, h⟩ := h
  refine ⟨a, cap, e, hm, fun hn => ?_⟩
  obtain ⟨g, off, e1, h1⟩ := h hn
  refine ⟨g, off, e1, fun j hj => ?_⟩
  obtain ⟨u, hc, hr⟩ := h1 j hj
  exact ⟨u, (b.cell (p := ⟨g, off + j, none⟩) (World.block_lt_of_cell? w _ hc)).trans hc, hr.below b⟩
theorem RdT.nil (w : World) (a : Option Addr) (cap : Nat) : RdT w (.slice a 0 cap) [] := ⟨a, cap, rfl, by simp [maxLen], fun h => absurd rfl h⟩

/-- v is a slice of the rows us, which hold the numbers rows; the call's own from base on, each row apart from all others. -/
structure OwR (w : World) (base : Nat) (v : Value) (us : List Value) (rows : List (List Int)) : Prop where
  own : w.ownsRow base 22 1 v us.length us
  len : us.length = rows.length
  max : rows.length ≤ maxLen
  row : ∀ j, j < rows.length → Ow w base (us.getD j nilS) (rows.getD j [])
  sep : ∀ j, j < rows.length → ∀ b, blockOf (us.getD j nilS) (rows.getD j []) = some b → v.ownBlock ≠ some b
  apart : ∀ i j, i < j → j < rows.length → ∀ b, blockOf (us.getD i nilS) (rows.getD i []) = some b → blockOf (us.getD j nilS) (rows.getD j []) ≠ some b

section
variable {w w' : World} {base : Nat} {v : Value} {us : List Value} {rows : List (List Int)}

theorem vals_getD (us : List Value) (j : Nat) (hj : j < us.length) : us[j]? = some (us.getD j nilS) := by simp [List.getD, hj]

theorem OwR.mono {base' : Nat} (h : OwR w base v us rows) (hb : base' ≤ base) : OwR w base' v us rows :=
  ⟨h.own.mono hb, h.len, h.max, fun j hj => (h.row j hj).mono hb, h.sep, h.apart⟩
theorem OwR.rd (h : OwR w base v us rows) : RdT w v rows := by
  have hown := h.own
  rcases Nat.eq_zero_or_pos rows.length with h0 | h0
  · have e : rows = [] := List.eq_nil_of_length_eq_zero h0
    subst e
    have hu : us = [] := List.eq_nil_of_length_eq_zero h.len
    subst hu
    rcases hown.2 with ⟨rfl, _⟩ | ⟨g, cap, cur, rfl, _⟩
    · exact RdT.nil _ _ _
    · exact RdT.nil _ _ _
  · have hl := h.len
    obtain ⟨g, cap, rfl, hb, _⟩ := hown.form (by omega)
    refine ⟨_, cap, by rw [hl], h.max, fun _ => ⟨g, 0, rfl, fun j hj => ⟨us.getD j nilS, ?_, (h.row j hj).rd⟩⟩⟩
    rw [Nat.zero_add, hown.cellAt j (by omega), vals_getD us j (by omega)]

theorem OwR.nil (w : World) (base : Nat) : OwR w base nilS [] [] :=
  ⟨World.ownsRow_nil w base _ 1, rfl, by simp [maxLen], fun j hj => absurd hj (by simp), fun j hj => absurd hj (by simp), fun i j _ hj => absurd hj (by simp)⟩
theorem OwR.made (w : World) (base : Nat) (hb : base ≤ w.heap.size) : OwR (w.alloc (.cells #[] 22)) base (.slice (some ⟨w.heap.size, 0, none⟩) 0 0) [] [] :=
  ⟨World.ownsRow_made w #[] 0 hb (by simp [maxLen]) (by simp), rfl, by simp [maxLen], fun j hj => absurd hj (by simp), fun j hj => absurd hj (by simp), fun i j _ hj => absurd hj (by simp)⟩

theorem OwR.kept (h : OwR w base v us rows) {row : Option Nat} (g : w.grownBy w' row) (hne : ∀ b, row = some b → v.ownBlock ≠ some b ∧ ∀ j, j < rows.length → blockOf (us.getD j nilS) (rows.getD j []) ≠ some b) : OwR w' base v us rows := by
  refine ⟨h.own.kept g ?_, h.len, h.max, fun j hj => (h.row j hj).grown g ?_, h.sep, h.apart⟩
  · cases hv : v.ownBlock with
    | none => exact .inl rfl
    | some b => right; intro e; exact (hne b e.symm).1 hv
  · cases hv : blockOf (us.getD j nilS) (rows.getD j []) with
    | none => exact .inl rfl
    | some b => right; intro e; exact (hne b e.symm).2 j hj hv
theorem OwR.below (h : OwR w base v us rows) (b : Below w.heap.size w w') : OwR w' base v us rows := h.kept (grownBy_any none b) (fun _ e => by cases e)
theorem OwR.base_le (h : OwR w base v us rows) : ∀ b, (v.ownBlock = some b ∨ ∃ j, j < rows.length ∧ blockOf (us.getD j nilS) (rows.getD j []) = some b) → base ≤ b ∧ b < w.heap.size := by
  rintro b (hb | ⟨j, hj, hb⟩)
  · exact h.own.lt b hb
  · exact ⟨(h.row j hj).block_ge b hb, (h.row j hj).rd.block_lt b hb⟩

theorem getD_snoc_lt {α : Type} (l : List α) (x d : α) (j : Nat) (h : j < l.length) : (l ++ [x]).getD j d = l.getD j d := by
  rw [List.getD_eq_getElem?_getD, List.getD_eq_getElem?_getD, List.getElem?_append_left h]
theorem getD_snoc_eq {α : Type} (l : List α) (x d : α) : (l ++ [x]).getD l.length d = x := by
  rw [List.getD_eq_getElem?_getD, List.getElem?_append_right (Nat.le_refl _)]; simp

/-- A row that was made anew is added. -/
theorem OwR.push {w1 w3 : World} {v' u : Value} {r : List Int} (h : OwR w base v us rows) (g1 : Below w.heap.size w w1) (ho : Ow w1 base u r) (hf : ∀ b, blockOf u r = some b → w.heap.size ≤ b) (hm : rows.length < maxLen)
    (g3 : w1.grownBy w3 v.ownBlock) (hown : w3.ownsRow base 22 1 v' (us ++ [u]).length (us ++ [u])) (hv' : v'.ownBlock = v.ownBlock ∨ ∃ b, v'.ownBlock = some b ∧ w1.heap.size ≤ b) : OwR w3 base v' (us ++ [u]) (rows ++ [r]) := by
  have hvl : ∀ b, v.ownBlock = some b → b < w.heap.size := fun b hb => (h.own.lt b hb).2
  have hsz := g1.size
  have hul : ∀ b, blockOf u r = some b → b < w1.heap.size := fun b hb => ho.rd.block_lt b hb
  have h1 := h.below g1
  have hk : ∀ j, j < rows.length → Ow w3 base (us.getD j nilS) (rows.getD j []) := fun j hj => (h1.row j hj).grown g3 (by
    cases hb : blockOf (us.getD j nilS) (rows.getD j []) with
    | none => exact .inl rfl
    | some b => right; intro e; exact h.sep j hj b hb e.symm)
  have hu3 : Ow w3 base u r := ho.grown g3 (by
    cases hb : blockOf u r with
    | none => exact .inl rfl
    | some b => right; intro e; have := hvl b e.symm; have := hf b hb; omega)
  have hlt : ∀ j, j < rows.length → ∀ b, blockOf (us.getD j nilS) (rows.getD j []) = some b → b < w.heap.size := fun j hj b hb => ((h.row j hj).rd.block_lt b hb)
  have el : us.length = rows.length := h.len
  refine ⟨hown, by simp [el], by simp; omega, fun j hj => ?_, fun j hj b hb => ?_, fun i j hij hj b hb => ?_⟩
  · simp only [List.length_append, List.length_cons, List.length_nil] at hj
    by_cases e : j < rows.length
    · rw [getD_snoc_lt _ _ _ _ e, getD_snoc_lt _ _ _ _ (by omega)]; exact hk j e
    · obtain rfl : j = rows.length := by omega
      rw [getD_snoc_eq, ← el, getD_snoc_eq]; exact hu3
  · simp only [List.length_append, List.length_cons, List.length_nil] at hj
    have hv'' : ∀ c, v'.ownBlock = some c → v.ownBlock = some c ∨ w1.heap.size ≤ c := fun c hc => by
      rcases hv' with e | ⟨d, e, hd⟩
      · exact .inl (e.symm.trans hc)
      · rw [e] at hc; injection hc with hc; exact .inr (by omega)
    intro hc
    by_cases e : j < rows.length
    · rw [getD_snoc_lt _ _ _ _ e, getD_snoc_lt _ _ _ _ (by omega)] at hb
      rcases hv'' b hc with hc | hc
      · exact h.sep j e b hb hc
      · have := hlt j e b hb; omega
    · obtain rfl : j = rows.length := by omega
      rw [getD_snoc_eq, ← el, getD_snoc_eq] at hb
      have := hf b hb
      have := hul b hb
      rcases hv'' b hc with hc | hc
      · have := hvl b hc; omega
      · omega
  · simp only [List.length_append, List.length_cons, List.length_nil] at hj
    rw [getD_snoc_lt _ _ _ _ (show i < rows.length by omega), getD_snoc_lt _ _ _ _ (show i < us.length by omega)] at hb
    by_cases e : j < rows.length
    · rw [getD_snoc_lt _ _ _ _ e, getD_snoc_lt _ _ _ _ (by omega)]; exact h.apart i j hij e b hb
    · obtain rfl : j = rows.length := by omega
      rw [getD_snoc_eq, ← el, getD_snoc_eq]
      intro hc
      have := hf b hc
      have := hlt i (by omega) b hb
      omega

/-- A row is written over. -/
theorem OwR.set {r : List Int} (h : OwR w base v us rows) (j : Nat) (hj : j < rows.length) (g : w.grownBy w' (blockOf (us.getD j nilS) (rows.getD j []))) (ho : Ow w' base (us.getD j nilS) r) (hl : r.length = (rows.getD j []).length) : OwR w' base v us (rows.set j r) := by
  have he : r = [] ↔ rows.getD j [] = [] := by rw [← List.length_eq_zero_iff, ← List.length_eq_zero_iff, hl]
  have hbo : blockOf (us.getD j nilS) r = blockOf (us.getD j nilS) (rows.getD j []) := by
    unfold blockOf
    by_cases e : r = []
    · rw [if_pos e, if_pos (he.1 e)]
    · rw [if_neg e, if_neg (fun x => e (he.2 x))]
  have hget : ∀ i, (rows.set j r).getD i [] = if i = j then r else rows.getD i [] := fun i => by
    rw [List.getD_eq_getElem?_getD, List.getD_eq_getElem?_getD, List.getElem?_set]
    by_cases e : j = i
    · rw [if_pos e, if_pos e.symm, if_pos (by omega)]; rfl
    · rw [if_neg e, if_neg (fun x => e x.symm)]
  have hblk : ∀ i, blockOf (us.getD i nilS) ((rows.set j r).getD i []) = blockOf (us.getD i nilS) (rows.getD i []) := fun i => by
    rw [hget]
    by_cases e : i = j
    · rw [if_pos e, e]; exact hbo
    · rw [if_neg e]
  refine ⟨h.own.kept g ?_, by rw [List.length_set]; exact h.len, by rw [List.length_set]; exact h.max, fun i hi => ?_, fun i hi b hb => ?_, fun i k hik hk b hb => ?_⟩
  · cases hb : blockOf (us.getD j nilS) (rows.getD j []) with
    | none =>
      cases hv : v.ownBlock with
      | none => exact .inl rfl
      | some c => right; simp
    | some b => right; exact h.sep j hj b hb
  · rw [List.length_set] at hi
    rw [hget]
    by_cases e : i = j
    · rw [if_pos e, e]; exact ho
    · rw [if_neg e]
      refine (h.row i hi).grown g ?_
      cases hb : blockOf (us.getD i nilS) (rows.getD i []) with
      | none => exact .inl rfl
      | some b =>
        right
        intro e2
        rcases Nat.lt_or_gt_of_ne e with hl | hl
        · exact h.apart i j hl hj b hb e2.symm
        · exact h.apart j i hl hi b e2.symm hb
  · rw [List.length_set] at hi
    rw [hblk] at hb
    exact h.sep i hi b hb
  · rw [List.length_set] at hk
    rw [hblk] at hb ⊢
    exact h.apart i k hik hk b hb
end
end Go.Proofs.Ytkkjgcpkimjfkaa
