/- Two tables of rows are made. -/
import Derived.Test.YtpdijlpdkdhgpaaProg
import Derived.Test.YtpdijlpdkdhgpaaPrices7
import Derived.Maps.AppendAt
namespace Go.Proofs.Ytpdijlpdkdhgpaa
open Go.RowKit

theorem YtpdijlpdkdhgpaainfoS : (Try.prog.info? 22).map (fun i => (i.zero, i.size, i.bytes)) = some (some (.slice none 0 0), 1, 24) := by kernel_rfl

/-- a row as a value -/
def sl (n r : Nat) : Value := .slice (some ⟨r, 0, none⟩) (n + 1) (n + 1)

/-- v is a slice of rows of n + 1 naughts, all its own -/
structure TabG (w : World) (base n : Nat) (v : Value) (rows : List Nat) : Prop where
  own : w.ownsRow base 22 1 v rows.length (rows.map (sl n))
  row : ∀ r ∈ rows, RowAt w r (n + 1) (fun _ => 0)
  apart : ∀ r ∈ rows, base ≤ r ∧ r < w.heap.size ∧ v.ownBlock ≠ some r
  nodup : rows.Nodup
  blk : ∃ g, v.ownBlock = some g ∧ base ≤ g ∧ g < w.heap.size

theorem TabG.blk_ge {w : World} {base n : Nat} {v : Value} {rows : List Nat} (h : TabG w base n v rows) (k : Nat) (hk : v.ownBlock = some k) : base ≤ k := by
  obtain ⟨g, e, h1, _⟩ := h.blk
  rw [e] at hk
  injection hk with hk
  omega
theorem RowAt.keptG {w w' : World} {B m : Nat} {f : Nat → Int} {row : Option Nat} (h : RowAt w B m f) (g : w.grownBy w' row) (hB : B < w.heap.size) (hne : some B ≠ row) : RowAt w' B m f := by
  intro j hj
  have hb := g.block B hB hne
  exact ⟨(World.cell?_of_block (a := ⟨B, j, none⟩) hb).trans (h j hj).1, (World.frozen?_of_block (a := ⟨B, j, none⟩) hb).trans (h j hj).2⟩
theorem TabG.kept {w w' : World} {base n : Nat} {v : Value} {rows : List Nat} {row : Option Nat} (h : TabG w base n v rows) (g : w.grownBy w' row) (hv : v.ownBlock ≠ row) (hr : ∀ r ∈ rows, some r ≠ row) : TabG w' base n v rows := by
  obtain ⟨gg, h1, h2, h3⟩ := h.blk
  exact ⟨h.own.kept g (.inr hv), fun r hm => (h.row r hm).keptG g (h.apart r hm).2.1 (hr r hm), fun r hm => ⟨(h.apart r hm).1, Nat.lt_of_lt_of_le (h.apart r hm).2.1 g.size, (h.apart r hm).2.2⟩, h.nodup, gg, h1, h2, Nat.lt_of_lt_of_le h3 g.size⟩
theorem TabG.push {w w1 w3 : World} {base n r0 : Nat} {v v' : Value} {rows : List Nat} (h : TabG w base n v rows) (_hbase : base ≤ w.heap.size) (g1 : w.grownBy w1 none) (hr0 : w.heap.size ≤ r0) (hr1 : r0 < w1.heap.size) (hrow : RowAt w1 r0 (n + 1) (fun _ => 0))
    (g3 : w1.grownBy w3 v.ownBlock) (hown : w3.ownsRow base 22 1 v' (rows ++ [r0]).length ((rows ++ [r0]).map (sl n))) (hv' : v'.ownBlock = v.ownBlock ∨ ∃ b, v'.ownBlock = some b ∧ w1.heap.size ≤ b ∧ b < w3.heap.size) :
    TabG w3 base n v' (rows ++ [r0]) := by
  obtain ⟨gg, h1, h2, h3⟩ := h.blk
  have hsz := g1.size
  have hsz3 := g3.size
  refine ⟨hown, fun r hm => ?_, fun r hm => ?_, ?_, ?_⟩
  · rcases List.mem_append.1 hm with hm | hm
    · exact ((h.row r hm).keptG g1 (h.apart r hm).2.1 (by simp)).keptG g3 (by have := (h.apart r hm).2.1; omega) (fun e => (h.apart r hm).2.2 e.symm)
    · rw [List.mem_singleton] at hm
      subst hm
      exact hrow.keptG g3 hr1 (by rw [h1]; intro e; injection e with e; omega)
  · rcases List.mem_append.1 hm with hm | hm
    · obtain ⟨a1, a2, a3⟩ := h.apart r hm
      refine ⟨a1, by omega, ?_⟩
      rcases hv' with e | ⟨b, e, hb, _⟩
      · rw [e]; exact a3
      · rw [e]; intro e; injection e with e; omega
    · rw [List.mem_singleton] at hm
      subst hm
      refine ⟨by omega, by omega, ?_⟩
      rcases hv' with e | ⟨b, e, hb, _⟩
      · rw [e, h1]; intro e; injection e with e; omega
      · rw [e]; intro e; injection e with e; omega
  · rw [List.nodup_append]
    refine ⟨h.nodup, by simp, fun a ha b hb => ?_⟩
    rw [List.mem_singleton] at hb
    subst hb
    have := (h.apart a ha).2.1
    omega
  · rcases hv' with e | ⟨b, e, hb, hb2⟩
    · exact ⟨gg, e.trans h1, h2, by omega⟩
    · exact ⟨b, e, by omega, hb2⟩

/-- the two tables have no block in common -/
def Apart (vC vB : Value) (rC rB : List Nat) : Prop := vC.ownBlock ≠ vB.ownBlock ∧ (∀ r ∈ rC, vB.ownBlock ≠ some r) ∧ (∀ r ∈ rB, vC.ownBlock ≠ some r) ∧ ∀ r ∈ rC, r ∉ rB
theorem Apart.symm {vC vB : Value} {rC rB : List Nat} (h : Apart vC vB rC rB) : Apart vB vC rB rC := ⟨fun e => h.1 e.symm, h.2.2.1, h.2.1, fun r hr hc => h.2.2.2 r hc hr⟩
theorem Apart.push {w : World} {base n r0 H : Nat} {vC vC' vB : Value} {rC rB : List Nat} (h : Apart vC vB rC rB) (tB : TabG w base n vB rB) (hr0 : w.heap.size ≤ r0) (hH : w.heap.size ≤ H)
    (hv' : vC'.ownBlock = vC.ownBlock ∨ ∃ b, vC'.ownBlock = some b ∧ H ≤ b) : Apart vC' vB (rC ++ [r0]) rB := by
  obtain ⟨gg, h1, h2, h3⟩ := tB.blk
  refine ⟨?_, fun r hr => ?_, fun r hr => ?_, fun r hr hc => ?_⟩
  · rcases hv' with e | ⟨b, e, hb⟩
    · rw [e]; exact h.1
    · rw [e, h1]; intro e; injection e with e; omega
  · rcases List.mem_append.1 hr with hr | hr
    · exact h.2.1 r hr
    · rw [List.mem_singleton] at hr
      subst hr
      rw [h1]; intro e; injection e with e; omega
  · rcases hv' with e | ⟨b, e, hb⟩
    · rw [e]; exact h.2.2.1 r hr
    · rw [e]; intro e; injection e with e; have := (tB.apart r hr).2.1; omega
  · rcases List.mem_append.1 hr with hr | hr
    · exact h.2.2.2 r hr hc
    · rw [List.mem_singleton] at hr
      subst hr
      have := (tB.apart r hc).2.1
      omega

theorem wpList_append_row (w : World) {ops : Array Oper} {rest : List Oper} {o : Oper} {a : Act} {Q : Exit → Act → World → Prop} (hgd : o.guard = none) (s x : Operand)
    (ho : o.op = Op.call { callee := Callee.builtin Builtin.append, args := #[s, x], argTypes := #[34, 34] })
    (base n r0 : Nat) (v : Value) (rows : List Nat) (hown : w.ownsRow base 22 1 v rows.length (rows.map (sl n))) (hs : a.eval s = v) (hx : a.eval x = .slice (some ⟨w.heap.size, 0, none⟩) 1 1)
    (hL : rows.length < 1000000000) (hb : base ≤ w.heap.size)
    (h : ∀ v' w', w'.ownsRow base 22 1 v' (rows ++ [r0]).length ((rows ++ [r0]).map (sl n)) → w.grownBy w' v.ownBlock → (v'.ownBlock = v.ownBlock ∨ ∃ b, v'.ownBlock = some b ∧ w.heap.size ≤ b ∧ b < w'.heap.size) → wpList Try.prog ops Q rest (a.put o.dst v') w') :
    wpList Try.prog ops Q (o :: rest) a (w.alloc (.cells #[sl n r0] 22)) := by
  obtain ⟨i0, hi, hz0, hz1, hz2⟩ := info_parts YtpdijlpdkdhgpaainfoS
  refine wpList_append_own_at _ hgd s x 34 ho base 22 i0 (.slice none 0 0) 1 24 Try.underlying34 hi hz0 hz1 hz2 rfl (by decide) v rows.length _ hs (hown.alloc _) ⟨w.heap.size, 0, none⟩ 1 1 [sl n r0] hx rfl ?_ ?_ ?_ ?_ ?_ ?_
  · intro j u hj
    match j, hj with
    | 0, hj => simp at hj; subst hj; simp [Addr.add]
  · intro u hu; simp at hu; subst hu; rfl
  · simp only [maxLen]; omega
  · omega
  · simp; omega
  · intro v' w' h1 h2 _ h4
    have e1 : (rows ++ [r0]).length = rows.length + 1 := by simp
    refine h v' w' (by rw [e1, List.map_append]; exact h1) ?_ ?_
    · refine ⟨h2.os, h2.tape, h2.output, ?_, fun k hk hne => ?_⟩
      · have := h2.size; simp at this; omega
      · rw [h2.block k (by simp; omega) hne]
        exact ((Below.refl w.heap.size w).alloc (Nat.le_refl _) _).block k hk
    · rcases h4 with e | e
      · exact .inl e
      · refine .inr ⟨_, e, by simp, (h1.lt _ e).2⟩
end Go.Proofs.Ytpdijlpdkdhgpaa
