/- Slices of ints: read ('Rd'), owned ('Ow'); the contracts of eqIntS, sameInts, markIntS, heldIntS, toIntS. -/
import Derived.Test.YtanhdnbjepjhlaaProg
import Derived.Test.YtanhdnbjepjhlaaBase
import Derived.Deep.QuietTactic
import Derived.BigQuiet
import Derived.WalkSmall
namespace Go.Proofs.Ytanhdnbjepjhlaa
open Go.RowKit

/-- v is a slice of the numbers xs, which can be read in w. -/
def Rd (w : World) (v : Value) (xs : List Int) : Prop :=
  ∃ a cap, v = .slice a xs.length cap ∧ xs.length ≤ maxLen ∧ (xs ≠ [] → ∃ g off, a = some ⟨g, off, none⟩ ∧ ∀ j, j < xs.length → w.cell? ⟨g, off + j, none⟩ = some (.int .i64 (xs.getD j 0)))

/-- v is a slice of the numbers xs in a block from base on, which can be read and written in w. -/
def Ow (w : World) (base : Nat) (v : Value) (xs : List Int) : Prop :=
  ∃ a cap, v = .slice a xs.length cap ∧ xs.length ≤ maxLen ∧ (xs ≠ [] → ∃ g off, a = some ⟨g, off, none⟩ ∧ base ≤ g ∧
    ∀ j, j < xs.length → w.cell? ⟨g, off + j, none⟩ = some (.int .i64 (xs.getD j 0)) ∧ w.frozen? ⟨g, off + j, none⟩ = false)

theorem Ow.rd {w : World} {base : Nat} {v : Value} {xs : List Int} (h : Ow w base v xs) : Rd w v xs := by
  obtain ⟨a, cap, e, hm, h⟩ := h
  exact ⟨a, cap, e, hm, fun hn => by obtain ⟨g, off, e1, _, h1⟩ := h hn; exact ⟨g, off, e1, fun j hj => (h1 j hj).1⟩⟩

theorem Rd.below {w w' : World} {v : Value} {xs : List Int} (h : Rd w v xs) (b : Below w.heap.size w w') : Rd w' v xs := by
  obtain ⟨a, cap, e, hm, h⟩ := h
  refine ⟨a, cap, e, hm, fun hn => ?_⟩
  obtain ⟨g, off, e1, h1⟩ := h hn
  refine ⟨g, off, e1, fun j hj => ?_⟩
  have := h1 j hj
  exact (b.cell (p := ⟨g, off + j, none⟩) (World.block_lt_of_cell? w _ this)).trans this

theorem Ow.below {w w' : World} {base : Nat} {v : Value} {xs : List Int} (h : Ow w base v xs) (b : Below w.heap.size w w') : Ow w' base v xs := by
  obtain ⟨a, cap, e, hm, h⟩ := h
  refine ⟨a, cap, e, hm, fun hn => ?_⟩
  obtain ⟨g, off, e1, hb, h1⟩ := h hn
  refine ⟨g, off, e1, hb, fun j hj => ?_⟩
  have := h1 j hj
  have lt := World.block_lt_of_cell? w _ this.1
  exact ⟨(b.cell (p := ⟨g, off + j, none⟩) lt).trans this.1, (b.frozen (p := ⟨g, off + j, none⟩) lt).trans this.2⟩

theorem Ow.mono {w : World} {base base' : Nat} {v : Value} {xs : List Int} (h : Ow w base v xs) (hb : base' ≤ base) : Ow w base' v xs := by
  obtain ⟨a, cap, e, hm, h⟩ := h
  exact ⟨a, cap, e, hm, fun hn => by obtain ⟨g, off, e1, h2, h1⟩ := h hn; exact ⟨g, off, e1, by omega, h1⟩⟩

theorem Ow.nil (w : World) (base : Nat) (a : Option Addr) (cap : Nat) : Ow w base (.slice a 0 cap) [] :=
  ⟨a, cap, rfl, by simp [maxLen], fun h => absurd rfl h⟩
theorem Rd.nil (w : World) (a : Option Addr) (cap : Nat) : Rd w (.slice a 0 cap) [] :=
  ⟨a, cap, rfl, by simp [maxLen], fun h => absurd rfl h⟩

theorem ints_getD (xs : List Int) (j : Nat) (hj : j < xs.length) : (xs.map (Value.int .i64))[j]? = some (.int .i64 (xs.getD j 0)) := by
  simp [List.getD, hj]

/-- A row that the call has made (by make, by append) is owned. -/
theorem Ow.of_row {w : World} {base n : Nat} {v : Value} {xs : List Int} (h : w.ownsRow base 3 1 v n (xs.map (Value.int .i64))) (hm : xs.length ≤ maxLen) : Ow w base v xs := by
  have hn : xs.length = n := by simpa using h.1
  subst hn
  rcases h.2 with ⟨rfl, h0⟩ | ⟨g, cap, cur, rfl, hb, _⟩
  · have : xs = [] := List.eq_nil_of_length_eq_zero h0
    subst this
    exact Ow.nil _ _ _ _
  · refine ⟨_, cap, rfl, hm, fun _ => ⟨g, 0, rfl, hb, fun j hj => ⟨?_, ?_⟩⟩⟩
    · rw [Nat.zero_add, h.cellAt j (by omega), ints_getD xs j hj]
    · rw [Nat.zero_add]; exact h.frozenAt j

theorem Ow.of_at {w : World} {base B n cap : Nat} {xs : List Int} (h : RowAt w B n (fun j => xs.getD j 0)) (hn : xs.length = n) (hm : n ≤ maxLen) (hb : base ≤ B) : Ow w base (.slice (some ⟨B, 0, none⟩) n cap) xs := by
  subst hn
  exact ⟨_, cap, rfl, hm, fun _ => ⟨B, 0, rfl, hb, fun j hj => by rw [Nat.zero_add]; exact h j hj⟩⟩

/-- A slice that came in can be read. -/
theorem Rd.of_row {w : World} {a : Option Addr} {len cap : Nat} {zs : List Int} (h : IsRow .i64 w a len cap zs) : Rd w (.slice a len cap) (zs.take len) ∧ len ≤ maxLen ∧ (zs.take len).length = len := by
  rcases h with ⟨rfl, rfl, rfl, rfl⟩ | ⟨x, rfl, hl, hm, hz, hcell, _⟩
  · exact ⟨Rd.nil _ _ _, by simp [maxLen], rfl⟩
  · have hlen : (zs.take len).length = len := by simp; omega
    refine ⟨⟨some x, cap, by rw [hlen], by rw [hlen]; omega, fun hn => ?_⟩, by omega, hlen⟩
    obtain ⟨b, off, spot⟩ := x
    have hpos : 0 < len := by
      rcases Nat.eq_zero_or_pos len with h0 | h0
      · subst h0; simp at hn
      · exact h0
    have h0 := hcell 0 (by omega)
    have hspot : spot = none := by simpa [Addr.add] using World.cell?_spot h0
    subst hspot
    refine ⟨b, off, rfl, fun j hj => ?_⟩
    rw [hlen] at hj
    have h1 := hcell j (by omega)
    rw [Addr.add_lit] at h1
    rw [h1]
    simp [List.getD, hj]

theorem getD_ext {xs ys : List Int} (hl : xs.length = ys.length) (h : ∀ j, j < xs.length → xs.getD j 0 = ys.getD j 0) : xs = ys := by
  apply List.ext_getElem hl
  intro j h1 h2
  have := h j h1
  simpa [List.getD, h1, h2] using this

theorem YtanhdnbjepjhlaainfoInt : (Try.prog.info? 3).map (fun i => (i.zero, i.size, i.bytes)) = some (some (.int .i64 0), 1, 8) := by kernel_rfl

/-- 'append(out, x)' of one number, to a slice of the call's own. -/
theorem wpList_append_int (w : World) {ops : Array Oper} {rest : List Oper} {o : Oper} {a : Act} {Q : Exit → Act → World → Prop} (hgd : o.guard = none) (s x : Operand)
    (ho : o.op = Op.call { callee := Callee.builtin Builtin.append, args := #[s, x], argTypes := #[23, 23] })
    (base : Nat) (v : Value) (L : List Int) (F : Int) (hown : w.ownsRow base 3 1 v L.length (L.map (Value.int .i64))) (hs : a.eval s = v) (hx : a.eval x = .slice (some ⟨w.heap.size, 0, none⟩) 1 1)
    (hL : L.length < 1000000000) (hb : base ≤ w.heap.size)
    (h : ∀ v' w', w'.ownsRow base 3 1 v' (L ++ [F]).length ((L ++ [F]).map (Value.int .i64)) → Below base w w' → wpList Try.prog ops Q rest (a.put o.dst v') w') :
    wpList Try.prog ops Q (o :: rest) a (w.alloc (.cells #[.int .i64 F] 3)) := by
  obtain ⟨i0, hi, hz0, hz1, hz2⟩ := info_parts YtanhdnbjepjhlaainfoInt
  refine wpList_append_own _ hgd s x 23 ho base 3 i0 (.int .i64 0) 1 8 Try.underlying23 hi hz0 hz1 hz2 rfl (by decide) v L.length _ hs (hown.alloc _) ⟨w.heap.size, 0, none⟩ 1 1 [.int .i64 F] hx rfl ?_ ?_ ?_ ?_ ?_ ?_
  · intro j u hj
    match j, hj with
    | 0, hj => simp at hj; subst hj; simp [Addr.add]
  · intro u hu; simp at hu; subst hu; rfl
  · simp only [maxLen]; omega
  · omega
  · simp; omega
  · intro v' w' h1 h2 _
    refine h v' w' ?_ ?_
    · simpa using h1
    · exact ((Below.refl base w).alloc hb _).grown h2 (by simp; omega) (fun k hk => (hown.lt k hk).1)

theorem owns_below {w w' : World} {base e size : Nat} {v : Value} {n : Nat} {xs : List Value} (h : w.ownsRow base e size v n xs) (b : Below w.heap.size w w') : w'.ownsRow base e size v n xs :=
  h.kept (⟨b.os, b.tape, b.output, b.size, fun k hk _ => b.block k hk⟩ : w.grownBy w' none) (by cases v.ownBlock <;> simp)


/-- The numbers that markIntS writes. -/
def marks (k : Int) (n : Nat) : List Int := (List.range n).map (fun j : Nat => k + (j : Int))
theorem marks_length (k : Int) (n : Nat) : (marks k n).length = n := by simp [marks]
theorem marks_getD (k : Int) (n j : Nat) (h : j < n) : (marks k n).getD j 0 = k + j := by simp [marks, List.getD, h]

/-- The block that a slice of numbers lies in, if it has any number. -/
def blockOf (v : Value) (xs : List Int) : Option Nat := if xs = [] then none else v.ownBlock

theorem Rd.block_lt {w : World} {v : Value} {xs : List Int} (h : Rd w v xs) : ∀ b, blockOf v xs = some b → b < w.heap.size := by
  intro b hb
  unfold blockOf at hb
  split at hb
  · cases hb
  · rename_i hn
    obtain ⟨a, cap, rfl, hm, h⟩ := h
    obtain ⟨g, off, rfl, h1⟩ := h hn
    simp [Value.ownBlock] at hb
    subst hb
    have : 0 < xs.length := List.length_pos_iff.2 hn
    exact World.block_lt_of_cell? w _ (h1 0 this)

theorem Ow.block_ge {w : World} {base : Nat} {v : Value} {xs : List Int} (h : Ow w base v xs) : ∀ b, blockOf v xs = some b → base ≤ b := by
  intro b hb
  unfold blockOf at hb
  split at hb
  · cases hb
  · rename_i hn
    obtain ⟨a, cap, rfl, hm, h⟩ := h
    obtain ⟨g, off, rfl, h2, h1⟩ := h hn
    simp [Value.ownBlock] at hb
    subst hb
    exact h2

theorem apart_blocks {p q : Option Nat} {B : Nat} (h1 : ∀ b, p = some b → b < B) (h2 : ∀ b, q = some b → B ≤ b) : p = none ∨ p ≠ q := by
  cases p with
  | none => exact .inl rfl
  | some b => right; intro e; have := h1 b rfl; have := h2 b e.symm; omega
theorem apart_blocks' {p q : Option Nat} {B : Nat} (h1 : ∀ b, p = some b → b < B) (h2 : ∀ b, q = some b → B ≤ b) : q = none ∨ q ≠ p := by
  cases q with
  | none => exact .inl rfl
  | some b => right; intro e; have := h2 b rfl; have := h1 b e.symm; omega

theorem Rd.grown {w w' : World} {v : Value} {xs : List Int} {row : Option Nat} (h : Rd w v xs) (g : w.grownBy w' row) (hne : blockOf v xs = none ∨ blockOf v xs ≠ row) : Rd w' v xs := by
  obtain ⟨a, cap, rfl, hm, h⟩ := h
  refine ⟨a, cap, rfl, hm, fun hn => ?_⟩
  obtain ⟨b, off, rfl, h1⟩ := h hn
  refine ⟨b, off, rfl, fun j hj => ?_⟩
  have hb : blockOf (.slice (some ⟨b, off, none⟩) xs.length cap) xs = some b := by simp [blockOf, hn, Value.ownBlock]
  rw [hb] at hne
  have hne' : some b ≠ row := by rcases hne with h | h; · cases h
                                 · exact h
  exact g.cell (a := ⟨b, off + j, none⟩) (h1 j hj) hne'

theorem Ow.grown {w w' : World} {base : Nat} {v : Value} {xs : List Int} {row : Option Nat} (h : Ow w base v xs) (g : w.grownBy w' row) (hne : blockOf v xs = none ∨ blockOf v xs ≠ row) : Ow w' base v xs := by
  obtain ⟨a, cap, rfl, hm, h⟩ := h
  refine ⟨a, cap, rfl, hm, fun hn => ?_⟩
  obtain ⟨b, off, rfl, h2, h1⟩ := h hn
  refine ⟨b, off, rfl, h2, fun j hj => ?_⟩
  have hb : blockOf (.slice (some ⟨b, off, none⟩) xs.length cap) xs = some b := by simp [blockOf, hn, Value.ownBlock]
  rw [hb] at hne
  have hne' : some b ≠ row := by rcases hne with h | h; · cases h
                                 · exact h
  have hbk := g.block b (World.block_lt_of_cell? w _ (h1 j hj).1) hne'
  exact ⟨g.cell (a := ⟨b, off + j, none⟩) (h1 j hj).1 hne', (World.frozen?_of_block (a := ⟨b, off + j, none⟩) hbk).trans (h1 j hj).2⟩

/-- A store into block g of a world that has grown by g. -/
theorem grownBy_set {w w1 : World} {g : Nat} (h : w.grownBy w1 (some g)) (o : Nat) (v : Value) : w.grownBy (w1.setCell ⟨g, o, none⟩ v) (some g) :=
  ⟨h.os, h.tape, h.output, by simpa [World.setCell] using h.size, fun k hk hne => by
    rw [Below.heap_setCell _ _ _ _ (by intro e; exact hne (by rw [e])), h.block k hk hne]⟩
theorem grownBy_any {w w1 : World} (row : Option Nat) (h : Below w.heap.size w w1) : w.grownBy w1 row :=
  ⟨h.os, h.tape, h.output, h.size, fun k hk _ => h.block k hk⟩

end Go.Proofs.Ytanhdnbjepjhlaa
