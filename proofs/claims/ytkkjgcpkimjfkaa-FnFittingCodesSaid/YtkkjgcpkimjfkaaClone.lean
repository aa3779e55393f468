/- slices.Clone of ints. -/
import Derived.Test.YtkkjgcpkimjfkaaProg
import Derived.Test.YtkkjgcpkimjfkaaSlices
import Derived.WalkSpells
namespace Go.Proofs.Ytkkjgcpkimjfkaa
open Go.RowKit

theorem rd_cells {w : World} {g off : Nat} {xs : List Int} (h : ∀ j, j < xs.length → w.cell? ⟨g, off + j, none⟩ = some (.int .i64 (xs.getD j 0))) (hg : g < w.heap.size) (o : Obj) :
    ∀ j u, (xs.map (Value.int .i64))[j]? = some u → (w.alloc o).cell? ((⟨g, off, none⟩ : Addr).add j) = some u := by
  intro j u hu
  have hj : j < xs.length := by have := (List.getElem?_eq_some_iff.1 hu).1; simpa using this
  rw [ints_getD xs j hj] at hu
  rw [Addr.add_lit]
  have : (w.alloc o).cell? ⟨g, off + j, none⟩ = w.cell? ⟨g, off + j, none⟩ := World.cell?_of_block (a := ⟨g, off + j, none⟩) (Below.heap_alloc w o g hg)
  rw [this, h j hj]
  exact hu

set_option maxHeartbeats 400000 in
theorem clone_any (v : Value) (xs : List Int) (w : World) (h : Rd w v xs) (hl : xs.length ≤ 1048576) :
    Calls Try.prog 67 #[v] w fun e w' => ∃ u, e = .returned u ∧ Ow w' w.heap.size u xs ∧ Below w.heap.size w w' := by
  obtain ⟨a, ca, rfl, hm, ha⟩ := h
  obtain ⟨i0, hi, hz0, hz1, hz2⟩ := info_parts YtkkjgcpkimjfkaainfoInt
  cases a with
  | none =>
    have hnil : xs = [] := by
      apply Classical.byContradiction; intro hn
      obtain ⟨g, off, e, _⟩ := ha hn
      cases e
    subst hnil
    have hq := fun (w : World) (c : Nat) => Lib.run_eql_slice_nil (P := Try.prog) w 22 3 none 0 c 0 0 Try.underlying22
    clear ha hm
    go_enter Try.func67, Try.ntmps67
    go_wp2_with fail
    go_ret
    exact ⟨_, rfl, Ow.nil _ _ _ _, Below.refl _ _⟩
  | some ad =>
    have hq := fun (w : World) (n c : Nat) => Lib.run_eql_slice_nil (P := Try.prog) w 22 3 (some ad) n c 0 0 Try.underlying22
    obtain ⟨B, hB⟩ : ∃ B, B = w.heap.size := ⟨_, rfl⟩
    have hnews : ∀ j u, (xs.map (Value.int .i64))[j]? = some u → (w.alloc (.cells #[] 3)).cell? (ad.add j) = some u := by
      intro j u hu
      have hj : j < xs.length := by have := (List.getElem?_eq_some_iff.1 hu).1; simpa using this
      have hne : xs ≠ [] := by intro e; rw [e] at hj; simp at hj
      obtain ⟨g, off, e, hc⟩ := ha hne
      cases e
      exact rd_cells hc (World.block_lt_of_cell? w _ (hc 0 (by omega))) _ j u hu
    clear ha
    go_enter Try.func67, Try.ntmps67
    go_wp2_with (first
      | (at_builtin; (refine wpList_append_own _ rfl _ _ 22 rfl B 3 i0 (.int .i64 0) 1 8 Try.underlying22 hi hz0 hz1 hz2 rfl (by decide) _ _ _ rfl (World.ownsRow_made w #[] 0 (Nat.le_of_eq hB) (by simp [maxLen]) (by simp)) ad xs.length ca (xs.map (Value.int .i64)) rfl (by simp) hnews (ints_oneCell _ _) ?c1 ?c2 ?c3 ?_)))
    case c1 => simp only [maxLen]; omega
    case c2 => omega
    case c3 => rw [hB]; simp
    · intro v' w1 hown hg _
      go_wp2_with fail
      go_ret
      refine ⟨_, rfl, Ow.of_row hown hm, ((Below.refl _ _).alloc (Nat.le_refl _) _).grown hg (by simp) (fun k hk => ?_)⟩
      simp [Value.ownBlock] at hk
      omega

/-- The copy of a slice that is not empty: a new row, with its capacity. -/
theorem clone_row (v : Value) (xs : List Int) (w : World) (h : Rd w v xs) (hne : xs ≠ []) (hl : xs.length ≤ 1048576) :
    Calls Try.prog 67 #[v] w fun e w' => ∃ g cap, e = .returned (.slice (some ⟨g, 0, none⟩) xs.length cap) ∧ xs.length ≤ cap ∧ cap ≤ maxLen ∧ w.heap.size ≤ g ∧ g < w'.heap.size ∧ RowAt w' g xs.length (fun j => xs.getD j 0) ∧ Below w.heap.size w w' := by
  obtain ⟨a, ca, rfl, hm, ha⟩ := h
  obtain ⟨i0, hi, hz0, hz1, hz2⟩ := info_parts YtkkjgcpkimjfkaainfoInt
  obtain ⟨g, off, rfl, hc⟩ := ha hne
  have hq := fun (w : World) (n c : Nat) => Lib.run_eql_slice_nil (P := Try.prog) w 22 3 (some ⟨g, off, none⟩) n c 0 0 Try.underlying22
  obtain ⟨B, hB⟩ : ∃ B, B = w.heap.size := ⟨_, rfl⟩
  have hnews : ∀ j u, (xs.map (Value.int .i64))[j]? = some u → (w.alloc (.cells #[] 3)).cell? ((⟨g, off, none⟩ : Addr).add j) = some u :=
    rd_cells hc (World.block_lt_of_cell? w _ (hc 0 (List.length_pos_iff.2 hne))) _
  have HNE := Lib.hid hne
  clear ha hne hc
  go_enter Try.func67, Try.ntmps67
  go_wp2_with (first
    | (at_builtin; (refine wpList_append_own _ rfl _ _ 22 rfl B 3 i0 (.int .i64 0) 1 8 Try.underlying22 hi hz0 hz1 hz2 rfl (by decide) _ _ _ rfl (World.ownsRow_made w #[] 0 (Nat.le_of_eq hB) (by simp [maxLen]) (by simp)) ⟨g, off, none⟩ xs.length ca (xs.map (Value.int .i64)) rfl (by simp) hnews (ints_oneCell _ _) ?c1 ?c2 ?c3 ?_)))
  case c1 => simp only [maxLen]; omega
  case c2 => omega
  case c3 => rw [hB]; simp
  · intro v' w1 hown hg hnn
    go_wp2_with fail
    go_ret
    have hown' := hown
    rcases hown.2 with ⟨_, h0⟩ | ⟨g', cap, cur, rfl, hb, hh, hnc, hcm, _⟩
    · exact absurd (List.eq_nil_of_length_eq_zero h0) HNE.out
    · refine ⟨g', cap, rfl, hnc, hcm, hb, (Array.getElem?_eq_some_iff.1 hh).1, fun j hj => ⟨?_, hown'.frozenAt j⟩, ((Below.refl _ _).alloc (Nat.le_refl _) _).grown hg (by simp) (fun k hk => ?_)⟩
      · rw [hown'.cellAt j (by omega), ints_getD xs j hj]
      · simp [Value.ownBlock] at hk
        omega
end Go.Proofs.Ytkkjgcpkimjfkaa
