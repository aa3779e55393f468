/- Rows and worlds that have grown. -/
import Derived.Test.YtkkjgcpkimjfkaaProg
import Derived.Test.YtkkjgcpkimjfkaaSlices
import Derived.Deep.Onto
namespace Go.Proofs.Ytkkjgcpkimjfkaa
open Go.RowKit

/-- A row made from the base on, behind a change of a lower block alone. -/
theorem owns_grown {w w' : World} {base e size : Nat} {v : Value} {n : Nat} {xs : List Value} {R : Nat} (h : w.ownsRow base e size v n xs) (g : w.grownBy w' (some R)) (hR : R < base) : w'.ownsRow base e size v n xs := by
  refine h.kept g ?_
  cases hv : v.ownBlock with
  | none => exact .inl rfl
  | some k =>
    right
    intro e
    have := (h.lt k hv).1
    injection e with e
    omega
theorem grownBy_then {w w1 w2 : World} {row : Option Nat} (g : w.grownBy w1 row) (b : Below w.heap.size w1 w2) : w.grownBy w2 row := by
  refine ⟨b.os.trans g.os, b.tape.trans g.tape, b.output.trans g.output, Nat.le_trans g.size b.size, fun k hk hne => ?_⟩
  rw [b.block k hk]
  exact g.block k hk hne
theorem grownBy_then2 {w w1 w2 : World} {row : Option Nat} (g : w.grownBy w1 row) (g2 : w1.grownBy w2 row) : w.grownBy w2 row := by
  refine ⟨g2.os.trans g.os, g2.tape.trans g.tape, g2.output.trans g.output, Nat.le_trans g.size g2.size, fun k hk hne => ?_⟩
  rw [g2.block k (Nat.lt_of_lt_of_le hk g.size) hne]
  exact g.block k hk hne
theorem below_of_grownBy {w w' : World} {H R : Nat} (g : w.grownBy w' (some R)) (hH : H ≤ w.heap.size) (hR : H ≤ R) : Below H w w' :=
  ⟨g.os, g.tape, g.output, g.size, fun k hk => g.block k (by omega) (by intro e; injection e with e; omega)⟩

theorem below_call {H : Nat} {w w1 w2 : World} (b : Below H w w1) (hH : H ≤ w.heap.size) (c : Below w1.heap.size w1 w2) : Below H w w2 := b.trans (c.mono (Nat.le_trans hH b.size))
theorem below_lit {H : Nat} {w w1 w2 : World} {o : Obj} (b : Below H w w1) (hH : H ≤ w.heap.size) (c : Below (w1.alloc o).heap.size (w1.alloc o) w2) : Below H w w2 :=
  (b.alloc (Nat.le_trans hH b.size) o).trans (c.mono (Nat.le_trans hH (b.alloc (Nat.le_trans hH b.size) o).size))
/-- A literal of numbers. -/
theorem rd_lit (w : World) (xs : List Int) (hm : xs.length ≤ maxLen) : Rd (w.alloc (.cells (xs.map (Value.int .i64)).toArray 3)) (.slice (some ⟨w.heap.size, 0, none⟩) xs.length xs.length) xs :=
  (Ow.of_row (World.ownsRow_lit (base := w.heap.size) (e := 3) (size := 1) w (xs.map (Value.int .i64)).toArray xs.length (Nat.le_refl _) hm (by simp)) hm).rd
/-- A part of a row. -/
theorem rd_part {w : World} {g n cap : Nat} {L : List Int} (h : Rd w (.slice (some ⟨g, 0, none⟩) n cap) L) (i k c : Nat) (hk : i + k ≤ L.length) : Rd w (.slice (some ⟨g, i, none⟩) k c) ((L.drop i).take k) := by
  obtain ⟨a, cap', e, hm, hc⟩ := h
  have hlen : ((L.drop i).take k).length = k := by simp; omega
  refine ⟨some ⟨g, i, none⟩, c, by rw [hlen], by omega, fun hn => ⟨g, i, rfl, fun j hj => ?_⟩⟩
  rw [hlen] at hj
  have hne : L ≠ [] := by intro e; rw [e] at hk; simp at hk; omega
  obtain ⟨g', off, e2, h2⟩ := hc hne
  injection e with e3 _ _
  rw [← e3] at e2
  injection e2 with e2
  injection e2 with e4 e5 _
  subst e4
  subst e5
  have := h2 (i + j) (by omega)
  rw [Nat.zero_add] at this
  rw [this]
  simp [List.getD, hj]
theorem owns_form {w : World} {B : Nat} {v : Value} {L : List Int} (h : w.ownsRow B 3 1 v L.length (L.map (Value.int .i64))) (hn : 0 < L.length) :
    ∃ g cap, v = .slice (some ⟨g, 0, none⟩) L.length cap ∧ B ≤ g ∧ g < w.heap.size ∧ L.length ≤ cap ∧ cap ≤ maxLen := by
  rcases h.2 with ⟨_, h0⟩ | ⟨g, cap, cur, hv, hb, hg, hnc, hcm, _⟩
  · omega
  · exact ⟨g, cap, hv, hb, (Array.getElem?_eq_some_iff.1 hg).1, hnc, hcm⟩
end Go.Proofs.Ytkkjgcpkimjfkaa
