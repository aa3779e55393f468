/- A slice of numbers of the call's own, in the midst of its block; append to it. -/
import Derived.Test.YtanhdnbjepjhlaaProg
import Derived.Test.YtanhdnbjepjhlaaSlices
import Derived.Test.YtanhdnbjepjhlaaGrow
import Derived.ArgAppend
namespace Go.Proofs.Ytanhdnbjepjhlaa
open Go.RowKit

/-- Block g, from off on, has cap cells that can be written; the first of them hold the numbers L. -/
structure OwL (w : World) (base g off cap : Nat) (L : List Int) : Prop where
  base_le : base ≤ g
  le : L.length ≤ cap
  lt : g < w.heap.size
  cells : ∀ j, j < L.length → w.cell? ⟨g, off + j, none⟩ = some (.int .i64 (L.getD j 0))
  room : ∀ j, j < cap → (w.cell? ⟨g, off + j, none⟩).isSome = true ∧ w.frozen? ⟨g, off + j, none⟩ = false

section
variable {w w' : World} {base g off cap : Nat} {L : List Int}
theorem OwL.drewN (h : OwL w base g off cap L) (n : Nat) : OwL (w.drewN n) base g off cap L := ⟨h.base_le, h.le, h.lt, h.cells, h.room⟩
theorem OwL.drew (h : OwL w base g off cap L) : OwL w.drew base g off cap L := ⟨h.base_le, h.le, h.lt, h.cells, h.room⟩
theorem OwL.below {B : Nat} (h : OwL w base g off cap L) (b : Below B w w') (hB : g < B) : OwL w' base g off cap L :=
  ⟨h.base_le, h.le, Nat.lt_of_lt_of_le h.lt b.size, fun j hj => (b.cell (p := ⟨g, off + j, none⟩) hB).trans (h.cells j hj), fun j hj => by
    rw [b.cell (p := ⟨g, off + j, none⟩) hB, b.frozen (p := ⟨g, off + j, none⟩) hB]; exact h.room j hj⟩
theorem OwL.alloc (h : OwL w base g off cap L) (o : Obj) : OwL (w.alloc o) base g off cap L := h.below ((Below.refl _ _).alloc (Nat.le_refl _) o) h.lt
theorem getD_set (L : List Int) (i j : Nat) (x : Int) (hi : i < L.length) : (L.set i x).getD j 0 = if j = i then x else L.getD j 0 := by
  simp only [List.getD_eq_getElem?_getD, List.getElem?_set]
  by_cases e : j = i
  · subst e; simp [hi]
  · rw [if_neg e, if_neg (fun h => e h.symm)]
theorem OwL.set (h : OwL w base g off cap L) (i : Nat) (x : Int) (hi : i < L.length) : OwL (w.setCell ⟨g, off + i, none⟩ (.int .i64 x)) base g off cap (L.set i x) := by
  refine ⟨h.base_le, by simpa using h.le, by simpa [World.setCell] using h.lt, fun j hj => ?_, fun j hj => ?_⟩
  · rw [List.length_set] at hj
    rw [getD_set L i j x hi]
    by_cases e : j = i
    · subst e
      rw [World.cell?_setCell_same _ _ _ (h.cells j hj), if_pos rfl]
    · rw [World.cell?_setCell_other _ _ _ _ (fun h => e (by injection h with _ h2 _; omega)), if_neg e]
      exact h.cells j hj
  · rw [World.frozen?_setCell]
    refine ⟨?_, (h.room j hj).2⟩
    by_cases e : j = i
    · subst e
      rw [World.cell?_setCell_same _ _ _ (h.cells j (by omega))]
      rfl
    · rw [World.cell?_setCell_other _ _ _ _ (fun h => e (by injection h with _ h2 _; omega))]
      exact (h.room j hj).1
theorem OwL.cut (h : OwL w base g off cap L) (k : Nat) : OwL w base g (off + k) (cap - k) (L.drop k) := by
  have hle := h.le
  refine ⟨h.base_le, by rw [List.length_drop]; omega, h.lt, fun j hj => ?_, fun j hj => ?_⟩
  · rw [List.length_drop] at hj
    rw [Nat.add_assoc, h.cells (k + j) (by omega)]
    simp [List.getD]
  · rw [Nat.add_assoc]; exact h.room (k + j) (by omega)
theorem OwL.rd (h : OwL w base g off cap L) (hm : L.length ≤ maxLen) (c : Nat) : Rd w (.slice (some ⟨g, off, none⟩) L.length c) L :=
  ⟨_, _, rfl, hm, fun _ => ⟨g, off, rfl, h.cells⟩⟩
theorem OwL.mono (h : OwL w base g off cap L) {base' : Nat} (hb : base' ≤ base) : OwL w base' g off cap L := ⟨Nat.le_trans hb h.base_le, h.le, h.lt, h.cells, h.room⟩
/-- a row of the call's own -/
theorem OwL.of_row {v : Value} (h : w.ownsRow base 3 1 v L.length (L.map (Value.int .i64))) (hn : 0 < L.length) : ∃ g cap, v = .slice (some ⟨g, 0, none⟩) L.length cap ∧ OwL w base g 0 cap L ∧ cap ≤ maxLen := by
  rcases h.2 with ⟨_, h0⟩ | ⟨g, cap, cur, rfl, hb, hg, hnc, hcm, hcs, _⟩
  · omega
  · have hlt := (Array.getElem?_eq_some_iff.1 hg).1
    refine ⟨g, cap, rfl, ⟨hb, hnc, hlt, fun j hj => ?_, fun j hj => ?_⟩, hcm⟩
    · rw [Nat.zero_add, h.cellAt j (by omega), ints_getD L j hj]
    · rw [Nat.zero_add]
      refine ⟨?_, h.frozenAt j⟩
      rw [cell_of_row w g j cur 3 (0, 0) hg]
      have : j < cur.size := by omega
      simp [this]
end

theorem setCells_one (w : World) (b o : Nat) (v : Value) : w.setCells b o [v] = w.setCell ⟨b, o, none⟩ v := rfl

/-- 'append(left, x)' of one number, to a slice of the call's own in the midst of its block. -/
theorem wpList_append_mid (w : World) {ops : Array Oper} {rest : List Oper} {o : Oper} {a : Act} {Q : Exit → Act → World → Prop} (hgd : o.guard = none) (s x : Operand)
    (ho : o.op = Op.call { callee := Callee.builtin Builtin.append, args := #[s, x], argTypes := #[23, 23] })
    (base g off cap n : Nat) (L : List Int) (F : Int) (h0 : OwL w base g off cap L) (hn : L.length = n) (hs : a.eval s = .slice (some ⟨g, off, none⟩) n cap) (hx : a.eval x = .slice (some ⟨w.heap.size, 0, none⟩) 1 1)
    (hL : L.length < 1000000000) (hcm : cap ≤ maxLen) (hb : base ≤ w.heap.size)
    (h : ∀ g' off' cap' w', OwL w' base g' off' cap' (L ++ [F]) → cap' ≤ maxLen → Below base w w' → wpList Try.prog ops Q rest (a.put o.dst (.slice (some ⟨g', off', none⟩) (n + 1) cap')) w') :
    wpList Try.prog ops Q (o :: rest) a (w.alloc (.cells #[.int .i64 F] 3)) := by
  subst hn
  obtain ⟨i0, hi, hz0, hz1, hz2⟩ := info_parts YtanhdnbjepjhlaainfoInt
  have hW : Below base w (w.alloc (.cells #[.int .i64 F] 3)) := (Below.refl _ _).alloc hb _
  have hA := h0.alloc (.cells #[.int .i64 F] 3)
  have hnews : ∀ j u, [Value.int .i64 F][j]? = some u → (w.alloc (.cells #[.int .i64 F] 3)).cell? ((⟨w.heap.size, 0, none⟩ : Addr).add j) = some u := by
    intro j u hj
    match j, hj with
    | 0, hj => simp at hj; subst hj; simp [Addr.add]
  have hglt := h0.lt
  refine wpList_plain hgd fun K' hK' => ?_
  have step : ∃ g' off' cap' w', (Builtin.append_ #[23, 23] o.type #[.slice (some ⟨g, off, none⟩) L.length cap, .slice (some ⟨w.heap.size, 0, none⟩) 1 1]).run Try.prog (w.alloc (.cells #[.int .i64 F] 3)) = .ok (.slice (some ⟨g', off', none⟩) (L.length + 1) cap') w' ∧ OwL w' base g' off' cap' (L ++ [F]) ∧ cap' ≤ maxLen ∧ Below base w w' := by
    by_cases hr : L.length + 1 ≤ cap
    · have hrm := hA.room L.length (by omega)
      have hrun := run_append_room_cells (P := Try.prog) (w.alloc (.cells #[.int .i64 F] 3)) 23 o.type 3 i0 Try.underlying23 hi g off L.length cap ⟨w.heap.size, 0, none⟩ 1 1 [.int .i64 F] (by rw [hz1]; rfl) hnews (by simp [Value.oneCell']) hr
        (fun j hj => by simp only [List.length_cons, List.length_nil] at hj; obtain rfl : j = 0 := by omega
                        rw [hz1, Nat.mul_one, Nat.add_zero]; exact hrm.1)
        (fun j hj => by simp only [List.length_cons, List.length_nil] at hj; obtain rfl : j = 0 := by omega
                        rw [hz1, Nat.mul_one, Nat.add_zero]; exact hrm.2)
      rw [hz1, Nat.mul_one, setCells_one] at hrun
      refine ⟨g, off, cap, _, hrun, ⟨hA.base_le, by simpa using hr, by simpa [World.setCell] using hA.lt, fun j hj => ?_, fun j hj => ?_⟩, hcm, hW.setCell h0.base_le _⟩
      · simp only [List.length_append, List.length_cons, List.length_nil] at hj
        by_cases e : j = L.length
        · subst e
          obtain ⟨u, hu⟩ := Option.isSome_iff_exists.1 hrm.1
          rw [World.cell?_setCell_same _ _ _ hu]
          simp [List.getD]
        · rw [World.cell?_setCell_other _ _ _ _ (fun h => e (by injection h with _ h2 _; omega)), hA.cells j (by omega)]
          simp [List.getD, List.getElem?_append_left (show j < L.length by omega)]
      · rw [World.frozen?_setCell]
        refine ⟨?_, (hA.room j hj).2⟩
        by_cases e : j = L.length
        · subst e
          obtain ⟨u, hu⟩ := Option.isSome_iff_exists.1 hrm.1
          rw [World.cell?_setCell_same _ _ _ hu]; rfl
        · rw [World.cell?_setCell_other _ _ _ _ (fun h => e (by injection h with _ h2 _; omega))]
          exact (hA.room j hj).1
    · obtain ⟨v', w', hrun, r1, r2⟩ := run_append_arg_grows (P := Try.prog) (w.alloc (.cells #[.int .i64 F] 3)) 23 o.type 3 i0 (.int .i64 0) 1 8 Try.underlying23 hi hz0 hz1 hz2 rfl (by decide) ⟨g, off, none⟩ L.length cap (L.map (Value.int .i64)) (by simp)
        (fun j u hu => by
          have hj : j < L.length := by have := (List.getElem?_eq_some_iff.1 hu).1; simpa using this
          rw [Addr.add_lit, hA.cells j hj]
          rw [ints_getD L j hj] at hu
          exact hu) ⟨w.heap.size, 0, none⟩ 1 1 [.int .i64 F] rfl hnews (by omega) (by simp only [maxLen]; omega) (by omega)
      have hlen : (L ++ [F]).length = L.length + 1 := by simp
      have r1' : w'.ownsRow (w.alloc (.cells #[.int .i64 F] 3)).heap.size 3 1 v' (L ++ [F]).length ((L ++ [F]).map (Value.int .i64)) := by rw [hlen]; simpa using r1
      obtain ⟨g', cap', rfl, ho, hcm'⟩ := OwL.of_row r1' (by simp)
      rw [hlen] at hrun
      exact ⟨g', 0, cap', w', hrun, ho.mono hW.size |>.mono (by simpa using hb), hcm', hW.trans ((grown_below r2).mono (Nat.le_trans hb hW.size))⟩
  obtain ⟨g', off', cap', w', hrun, r1, r2, r3⟩ := step
  unfold Oper.wp execOp
  simp only [ho, resolve, invoke, builtin, Sem.run_bind, Sem.run_pure, Result.andThen_ok, List.map_toArray, List.map_cons, List.map_nil, hs, hx, hrun]
  exact hK' _ _ (h g' off' cap' w' r1 r2 r3)
end Go.Proofs.Ytanhdnbjepjhlaa
