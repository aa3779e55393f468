/- slices.IndexFunc and slices.DeleteFunc over rows. -/
import Derived.Test.YtkkjgcpkimjfkaaProg
import Derived.Test.YtkkjgcpkimjfkaaFi1
import Derived.Test.YtkkjgcpkimjfkaaRows1
import Derived.Lib.SliceRun
namespace Go.Proofs.Ytkkjgcpkimjfkaa
open Go.RowKit

def IdxR (P : List Int → Bool) (rows : List (List Int)) (w : World) (e : Ending) (w' : World) : Prop :=
  (∃ k : Int, e = .returned (.int .i64 k) ∧ ((k = -1 ∧ ∀ j, j < rows.length → P (rows.getD j []) = false) ∨ (∃ m : Nat, k = m ∧ m < rows.length ∧ P (rows.getD m []) = true ∧ ∀ j, j < m → P (rows.getD j []) = false))) ∧ Below w.heap.size w w'

set_option maxHeartbeats 2000000 in
theorem idxR_any (P : List Int → Bool) (v : Value) (rows : List (List Int)) (b1 : Nat) (w : World) (h : RdT w v rows)
    (hk : ∀ W u r, Below w.heap.size w W → Rd W u r → (∃ k, k < rows.length ∧ r = rows.getD k []) → Calls Try.prog 55 #[u, .pointer (some ⟨b1, 0, none⟩)] W (BelRet (P r) W)) :
    Calls Try.prog 70 #[v, .func (Fn.func 55) #[] #[.pointer (some ⟨b1, 0, none⟩)]] w (IdxR P rows w) := by
  obtain ⟨a, ca, rfl, hm, ha⟩ := h
  unfold maxLen at hm
  unfold IdxR
  have HA := Lib.hid ha
  have HK := Lib.hid hk
  clear ha hk
  generalize hn : rows.length = n at *
  have HN := Lib.hid hn
  clear hn
  go_enter Try.func70, Try.ntmps70
  go_wp2_with fail
  go_loopw [8] (fun q wr => ∃ k : Nat, k ≤ n ∧ q = .int .i64 k ∧ Hid (∀ j, j < k → P (rows.getD j []) = false) ∧ Below w.heap.size w wr) (fun q _ => n - (intOf q).toNat)
  case atStart => exact ⟨0, by omega, rfl, fun j hj => by omega, Below.refl _ _⟩
  case round =>
    obtain ⟨k, hk, rfl, HP, hbel⟩ := hrel
    by_cases hlt : k < n
    · have hne : rows ≠ [] := by intro e; have := HN.out; rw [e] at this; simp at this; omega
      obtain ⟨g, off, rfl, hc⟩ := HA.out hne
      obtain ⟨u, h1, hru⟩ := hc k hlt
      have hg := World.block_lt_of_cell? w _ h1
      have c1 := (hbel.cell (p := ⟨g, off + k, none⟩) hg).trans h1
      have K := Lib.hid (HK.out wr u (rows.getD k []) hbel (hru.below hbel) ⟨k, hlt, rfl⟩)
      obtain ⟨x, cx, rfl, _, _⟩ := hru
      have HPK : Hid (∀ b, P (rows.getD k []) = b → b = false → ∀ j, j < k + 1 → P (rows.getD j []) = false) := by
        intro b hb hb2 j hj
        by_cases e : j = k
        · rw [e, hb, hb2]
        · exact HP.out j (by omega)
      have HKB : Hid (P (rows.getD k []) = true → ∃ m : Nat, (k : Int) = m ∧ m < n ∧ P (rows.getD m []) = true ∧ ∀ j, j < m → P (rows.getD j []) = false) := fun hb => ⟨k, rfl, hlt, hb, HP.out⟩
      generalize (rows.getD k []).length = lk at *
      generalize P (rows.getD k []) = b at *
      have HPK2 : Hid (b = false → ∀ j, j < k + 1 → P (rows.getD j []) = false) := HPK.out b rfl
      have HB := Lib.hid hbel
      have hi0 : (0 : Int) ≤ (k : Int) := by omega
      have hi1 : (k : Int) < (n : Int) := by omega
      clear hc hne h1 HPK HP hbel
      go_wp2_with fail
      refine K.out.mono ?_
      rintro e w1 ⟨rfl, hb1⟩
      have HB1 := Lib.hid (HB.out.trans (hb1.mono HB.out.size))
      clear hb1 K
      cases b with
      | false =>
        have HPK3 := Lib.hid (HPK2.out rfl)
        go_wp2_with fail
        go_roundw
        case rel => exact ⟨k + 1, by omega, by go_num, HPK3.out, HB1.out⟩
        case measure => simp [intOf]; omega
      | true =>
        have HKB2 := Lib.hid (HKB.out rfl)
        go_wp2_with fail
        go_ret
        exact ⟨⟨k, rfl, .inr HKB2.out⟩, HB1.out⟩
    · have hkn : k = n := by omega
      have HM : Hid (∀ j, j < n → P (rows.getD j []) = false) := fun j hj => HP.out j (by rw [hkn]; exact hj)
      have HB := Lib.hid hbel
      clear HP hbel hkn
      go_wp2_with fail
      go_ret
      exact ⟨⟨-1, rfl, .inl ⟨rfl, HM.out⟩⟩, HB.out⟩

/-- the places of the first j rows that are not struck -/
def kidx (P : List Int → Bool) (rows : List (List Int)) (j : Nat) : List Nat := (List.range j).filter (fun m => !P (rows.getD m []))
theorem kidx_yes {P : List Int → Bool} {rows : List (List Int)} {j : Nat} (h : P (rows.getD j []) = true) : kidx P rows (j + 1) = kidx P rows j := by
  unfold kidx; rw [List.range_succ, List.filter_append]; simp only [List.filter_cons, h]; simp
theorem kidx_no {P : List Int → Bool} {rows : List (List Int)} {j : Nat} (h : P (rows.getD j []) = false) : kidx P rows (j + 1) = kidx P rows j ++ [j] := by
  unfold kidx; rw [List.range_succ, List.filter_append]; simp only [List.filter_cons, h]; simp
theorem kidx_le (P : List Int → Bool) (rows : List (List Int)) (j : Nat) : (kidx P rows j).length ≤ j := by
  have := List.length_filter_le (fun m => !P (rows.getD m [])) (List.range j)
  simpa [kidx] using this
theorem kidx_all {P : List Int → Bool} {rows : List (List Int)} : ∀ {j : Nat}, (∀ m, m < j → P (rows.getD m []) = false) → kidx P rows j = List.range j
  | 0, _ => rfl
  | j + 1, h => by rw [kidx_no (h j (by omega)), kidx_all (fun m hm => h m (by omega)), List.range_succ]
theorem kidx_lt (P : List Int → Bool) (rows : List (List Int)) (j : Nat) : ∀ m ∈ kidx P rows j, m < j := fun m hm => by
  have := (List.mem_filter.1 hm).1
  simpa using this
theorem kidx_sorted (P : List Int → Bool) (rows : List (List Int)) (j : Nat) : (kidx P rows j).Pairwise (· < ·) := List.Pairwise.filter _ List.pairwise_lt_range
theorem range_map_getD {α : Type} (l : List α) (d : α) : (List.range l.length).map (fun j => l.getD j d) = l := by
  apply List.ext_getElem
  · simp
  · intro i h1 h2
    simp [List.getD, h2]
theorem kidx_rows (P : List Int → Bool) (rows : List (List Int)) : (kidx P rows rows.length).map (fun j => rows.getD j []) = rows.filter (fun r => !P r) := by
  have h : rows.filter (fun r => !P r) = ((List.range rows.length).map (fun j => rows.getD j [])).filter (fun r => !P r) := by rw [range_map_getD]
  rw [h, List.filter_map]
  rfl

theorem owns_shrink {w : World} {base g n cap : Nat} {T : TypeId} {xs : List Value} (h : w.ownsRow base T 1 (.slice (some ⟨g, 0, none⟩) n cap) n xs) (i : Nat) (hi : i ≤ n) : w.ownsRow base T 1 (.slice (some ⟨g, 0, none⟩) i cap) i (xs.take i) := by
  have hl := h.1
  refine ⟨by simp; omega, ?_⟩
  rcases h.2 with ⟨h', _⟩ | ⟨g', cap', cur, h', hb, hg, hnc, hcm, hcs, htake⟩
  · simp at h'
  · simp only [Value.slice.injEq, Option.some.injEq, Addr.mk.injEq, and_true, true_and] at h'
    obtain ⟨rfl, rfl⟩ := h'
    refine .inr ⟨g, cap, cur, rfl, hb, hg, by omega, hcm, hcs, ?_⟩
    rw [← htake, List.take_take]
    congr 1
    omega
theorem owns_setCells {base g n cap : Nat} {T : TypeId} (i : Nat) : ∀ (vs : List Value) (o : Nat) (w : World) (xs : List Value), w.ownsRow base T 1 (.slice (some ⟨g, 0, none⟩) n cap) n xs → i ≤ o →
    ∃ xs', (w.setCells g o vs).ownsRow base T 1 (.slice (some ⟨g, 0, none⟩) n cap) n xs' ∧ xs'.take i = xs.take i ∧ w.grownBy (w.setCells g o vs) (some g)
  | [], _, w, xs, h, _ => ⟨xs, h, rfl, World.grownBy.refl _ _⟩
  | v :: vs, o, w, xs, h, hi => by
    obtain ⟨h1, h2⟩ := h.stored o v
    obtain ⟨xs', a1, a2, a3⟩ := owns_setCells i vs (o + 1) _ _ h1 (by omega)
    refine ⟨xs', a1, ?_, grownBy_then2 h2 a3⟩
    rw [a2, List.take_set_of_le hi]
end Go.Proofs.Ytkkjgcpkimjfkaa
