/- impl.routes: the answers to each letter of a tree. -/
import Derived.Test.YtanhdnbjepjhlaaProg
import Derived.Test.YtanhdnbjepjhlaaTreeC
import Derived.Test.YtanhdnbjepjhlaaMaps
import Derived.Deep.AppendLies
namespace Go.Proofs.Ytanhdnbjepjhlaa
open Go.RowKit

theorem rd_cells {w : World} {g off : Nat} {xs : List Int} (h : ∀ j, j < xs.length → w.cell? ⟨g, off + j, none⟩ = some (.int .i64 (xs.getD j 0))) (hg : g < w.heap.size) (o : Obj) :
    ∀ j u, (xs.map (Value.int .i64))[j]? = some u → (w.alloc o).cell? ((⟨g, off, none⟩ : Addr).add j) = some u := by
  intro j u hu
  have hj : j < xs.length := by have := (List.getElem?_eq_some_iff.1 hu).1; simpa using this
  rw [ints_getD xs j hj] at hu
  rw [Addr.add_lit]
  have : (w.alloc o).cell? ⟨g, off + j, none⟩ = w.cell? ⟨g, off + j, none⟩ := World.cell?_of_block (a := ⟨g, off + j, none⟩) (Below.heap_alloc w o g hg)
  rw [this, h j hj]
  exact hu

set_option maxHeartbeats 400000 in
theorem clone_owns (v : Value) (xs : List Int) (w : World) (h : Rd w v xs) (hl : xs.length ≤ 1048576) :
    Calls Try.prog 22 #[v] w fun e w' => ∃ u, e = .returned u ∧ w'.ownsRow w.heap.size 3 1 u xs.length (xs.map (Value.int .i64)) ∧ Below w.heap.size w w' := by
  obtain ⟨a, ca, rfl, hm, ha⟩ := h
  obtain ⟨i0, hi, hz0, hz1, hz2⟩ := info_parts YtanhdnbjepjhlaainfoInt
  cases a with
  | none =>
    have hnil : xs = [] := by
      apply Classical.byContradiction; intro hn
      obtain ⟨g, off, e, _⟩ := ha hn
      cases e
    subst hnil
    have hq := fun (w : World) (c : Nat) => Lib.run_eql_slice_nil (P := Try.prog) w 23 3 none 0 c 0 0 Try.underlying23
    clear ha hm
    go_enter Try.func22, Try.ntmps22
    go_wp2_with fail
    go_ret
    exact ⟨_, rfl, ⟨by simp, .inl ⟨rfl, rfl⟩⟩, Below.refl _ _⟩
  | some ad =>
    have hq := fun (w : World) (n c : Nat) => Lib.run_eql_slice_nil (P := Try.prog) w 23 3 (some ad) n c 0 0 Try.underlying23
    obtain ⟨B, hB⟩ : ∃ B, B = w.heap.size := ⟨_, rfl⟩
    have hnews : ∀ j u, (xs.map (Value.int .i64))[j]? = some u → (w.alloc (.cells #[] 3)).cell? (ad.add j) = some u := by
      intro j u hu
      have hj : j < xs.length := by have := (List.getElem?_eq_some_iff.1 hu).1; simpa using this
      have hne : xs ≠ [] := by intro e; rw [e] at hj; simp at hj
      obtain ⟨g, off, e, hc⟩ := ha hne
      cases e
      exact rd_cells hc (World.block_lt_of_cell? w _ (hc 0 (by omega))) _ j u hu
    clear ha
    go_enter Try.func22, Try.ntmps22
    go_wp2_with (first
      | (at_builtin; (refine wpList_append_own _ rfl _ _ 23 rfl B 3 i0 (.int .i64 0) 1 8 Try.underlying23 hi hz0 hz1 hz2 rfl (by decide) _ _ _ rfl (World.ownsRow_made w #[] 0 (Nat.le_of_eq hB) (by simp [maxLen]) (by simp)) ad xs.length ca (xs.map (Value.int .i64)) rfl (by simp) hnews (ints_oneCell _ _) ?c1 ?c2 ?c3 ?_)))
    case c1 => simp only [maxLen]; omega
    case c2 => omega
    case c3 => rw [hB]; simp
    · intro v' w1 hown hg _
      go_wp2_with fail
      go_ret
      refine ⟨_, rfl, ?_, ((Below.refl _ _).alloc (Nat.le_refl _) _).grown hg (by simp) (fun k hk => ?_)⟩
      · simpa using hown
      · simp [Value.ownBlock] at hk
        omega

theorem str_nil {s : ByteArray} (h : s.data.toList = []) : s = { data := #[] } := by
  cases s with
  | mk d => simp at h; rw [h]
theorem extract_one (s : ByteArray) (_ : 1 ≤ s.size) : (s.extract 1 s.size).data.toList = s.data.toList.drop 1 := by
  have e : s.size - 1 = s.data.toList.tail.length := by rw [List.length_tail, len_str]
  simp [ByteArray.data_extract]
  rw [e, List.take_length]
theorem extract_front (s : ByteArray) : (s.extract 0 1).toList = s.data.toList.take 1 := by
  rw [ByteArray.toList_eq]
  simp [ByteArray.data_extract]

/-- strings.CutPrefix at a closing bracket -/
theorem cutPrefix_any (s : ByteArray) (hs : s.size ≤ 1000000000) (w : World) :
    Calls Try.prog 47 #[.string s, .string { data := #[41] }] w fun e w' => ∃ s' : ByteArray, e = .returned (.tuple #[.string s', .bool (cut s.data.toList).2]) ∧ s'.data.toList = (cut s.data.toList).1 ∧ w = w' := by
  cases hl : s.data.toList with
  | nil =>
    obtain rfl := str_nil hl
    clear hl
    go_enter Try.func47, Try.ntmps47
    go_wp2
    go_ret2
    exact ⟨_, rfl, rfl, rfl⟩
  | cons c r =>
    have hz : 1 ≤ s.size := by rw [← len_str, hl]; simp
    have hx : (s.extract 0 1).toList = [c] := by rw [extract_front, hl]; rfl
    have HL := Lib.hid hl
    clear hl
    by_cases h : c = 41
    · have hb : ((s.extract 0 1).toList == [41]) = true := by rw [hx, h]; rfl
      have e : cut (c :: r) = (r, true) := by rw [cut, if_pos h]
      rw [e]
      clear hx h e
      go_enter Try.func47, Try.ntmps47
      go_wp2
      go_ret2
      exact ⟨_, rfl, by rw [extract_one s hz, HL.out]; rfl, rfl⟩
    · have hb : ((s.extract 0 1).toList == [41]) = false := by rw [hx]; simpa using h
      have e : cut (c :: r) = (c :: r, false) := by rw [cut, if_neg h]
      rw [e]
      clear hx h e
      go_enter Try.func47, Try.ntmps47
      go_wp2
      go_ret2
      exact ⟨_, rfl, HL.out, rfl⟩
end Go.Proofs.Ytanhdnbjepjhlaa
