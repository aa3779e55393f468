/- Rows of int cells in memory, as a function of the index: what a load needs, what a store leaves. No program is named here. -/
import Derived.Handy
import Derived.WalkKit
import Derived.Below
import Derived.OwnWalk
import Derived.BigRegion
import Derived.ChangeAlike
import Derived.RegionTactic
import Derived.Lib.Hide
namespace Go.Proofs.Ytkkjgcpkimjfkaa
open Go.RowKit

/-- Block B holds n int cells, cell j the number f j; none is frozen. -/
def RowAt (w : World) (B n : Nat) (f : Nat → Int) : Prop :=
  ∀ j, j < n → w.cell? ⟨B, j, none⟩ = some (.int .i64 (f j)) ∧ w.frozen? ⟨B, j, none⟩ = false

theorem RowAt.cell {w : World} {B n : Nat} {f : Nat → Int} (h : RowAt w B n f) (j : Nat) (hj : j < n) : w.cell? ⟨B, j, none⟩ = some (.int .i64 (f j)) := (h j hj).1
theorem RowAt.free {w : World} {B n : Nat} {f : Nat → Int} (h : RowAt w B n f) (j : Nat) (hj : j < n) : w.frozen? ⟨B, j, none⟩ = false := (h j hj).2

theorem RowAt.congr {w : World} {B n : Nat} {f g : Nat → Int} (h : RowAt w B n f) (e : ∀ j, j < n → f j = g j) : RowAt w B n g :=
  fun j hj => by rw [← e j hj]; exact h j hj

theorem RowAt.drew {w : World} {B n : Nat} {f : Nat → Int} (h : RowAt w B n f) : RowAt w.drew B n f := h

theorem RowAt.set {w : World} {B n : Nat} {f : Nat → Int} (h : RowAt w B n f) (i : Nat) (v : Int) :
    RowAt (w.setCell ⟨B, i, none⟩ (.int .i64 v)) B n (fun j => if j = i then v else f j) := by
  intro j hj
  have hf : (w.setCell ⟨B, i, none⟩ (.int .i64 v)).frozen? ⟨B, j, none⟩ = false := by
    rw [World.frozen?_setCell]; exact (h j hj).2
  refine ⟨?_, hf⟩
  by_cases e : j = i
  · subst e
    rw [World.cell?_setCell_same _ _ _ (h j hj).1]
    simp
  · rw [World.cell?_setCell_other _ _ _ _ (fun h => e (by injection h with _ h2 _; exact h2.symm))]
    simp only [e, if_false]
    exact (h j hj).1

theorem RowAt.other {w : World} {B n B' : Nat} {f : Nat → Int} (h : RowAt w B n f) (hne : B ≠ B') (i : Nat) (v : Value) : RowAt (w.setCell ⟨B', i, none⟩ v) B n f := by
  intro j hj
  refine ⟨?_, by rw [World.frozen?_setCell]; exact (h j hj).2⟩
  rw [World.cell?_setCell_other _ _ _ _ (fun e => hne (by injection e with e1 _ _; exact e1.symm))]
  exact (h j hj).1

theorem RowAt.below {w w' : World} {B n Bd : Nat} {f : Nat → Int} (h : RowAt w B n f) (b : Below Bd w w') (hB : B < Bd) : RowAt w' B n f := by
  intro j hj
  exact ⟨(b.cell (p := ⟨B, j, none⟩) hB).trans (h j hj).1, (b.frozen (p := ⟨B, j, none⟩) hB).trans (h j hj).2⟩

theorem RowAt.made {w : World} {base g n c : Nat} (h : w.ownsRow base 3 1 (.slice (some ⟨g, 0, none⟩) n c) n (madeCells (Value.int .i64 0).cells (n * 1)).toList) : RowAt w g n (fun _ => 0) := by
  intro j hj
  refine ⟨?_, h.frozenAt j⟩
  rw [h.cellAt j (by omega)]
  simp [Value.cells, toList_madeCells_one, hj]

theorem grown_below {w w' : World} (hg : w.grownBy w' none) : Below w.heap.size w w' :=
  (Below.refl _ _).grown hg (Nat.le_refl _) (by simp)

theorem ret_int {k : IntKind} {a b : Int} (h : a = b) : Ending.returned (.int k a) = .returned (.int k b) := by rw [h]
theorem ret_bool {a b : Bool} (h : a = b) : Ending.returned (.bool a) = .returned (.bool b) := by rw [h]

/-- What is told of a slice of integers that came in: it is nil, or it leads to a row of 'cap' cells, the numbers 'zs'. -/
def IsRow (k : IntKind) (w : World) (a : Option Addr) (len cap : Nat) (zs : List Int) : Prop :=
  (a = none ∧ len = 0 ∧ cap = 0 ∧ zs = []) ∨
  ∃ x, a = some x ∧ len ≤ cap ∧ cap ≤ maxLen ∧ zs.length = cap ∧ (∀ i, i < zs.length → w.cell? (x.add i) = some (.int k (zs.getD i 0))) ∧ ∀ n ∈ zs, (Lit.int k n).wf = true

end Go.Proofs.Ytkkjgcpkimjfkaa
