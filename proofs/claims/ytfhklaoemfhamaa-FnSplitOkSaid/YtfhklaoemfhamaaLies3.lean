/- others, confirmed, AfterYes, AfterNo. -/
import Derived.Test.YtfhklaoemfhamaaProg
import Derived.Test.YtfhklaoemfhamaaLies2
import Derived.Test.YtfhklaoemfhamaaClone
namespace Go.Proofs.Ytfhklaoemfhamaa
open Go.RowKit

theorem SOk_in {xs qs : List Int} (h : SOk xs qs = true) : (1 ≤ xs.length ∧ xs.length ≤ 3) ∧ qs.length = xs.length ∧ (∀ j, j < xs.length → 0 ≤ xs.getD j 0 ∧ xs.getD j 0 ≤ 10) ∧ (∀ j, j < xs.length → 0 ≤ qs.getD j 0 ∧ qs.getD j 0 ≤ xs.getD j 0) := by
  simp only [SOk, Bool.and_eq_true, decide_eq_true_eq] at h
  refine ⟨KOk_len h.1, h.2.1, fun j hj => KOk_bd h.1 j hj, fun j hj => h.2.2 j (by omega)⟩

def othF (xs qs : List Int) (j : Nat) : Int := xs.getD j 0 - qs.getD j 0
def aftF (n : Nat) (xs qs : List Int) (j : Nat) : Int := qs.getD j 0 + if j + 1 < n then xs.getD (j + 1) 0 - qs.getD (j + 1) 0 else 0
/-- The numbers of a function, as a list. -/
def fnl (n : Nat) (f : Nat → Int) : List Int := (List.range n).map f
theorem fnl_length (n : Nat) (f : Nat → Int) : (fnl n f).length = n := by simp [fnl]
theorem fnl_getD (n : Nat) (f : Nat → Int) (j : Nat) (h : j < n) : (fnl n f).getD j 0 = f j := by simp [fnl, List.getD, h]

theorem Rd.cells {w : World} {v : Value} {xs : List Int} (h : Rd w v xs) (hne : xs ≠ []) : ∃ g off cap, v = .slice (some ⟨g, off, none⟩) xs.length cap ∧ g < w.heap.size ∧ ∀ j, j < xs.length → w.cell? ⟨g, off + j, none⟩ = some (.int .i64 (xs.getD j 0)) := by
  obtain ⟨a, cap, rfl, hm, h⟩ := h
  obtain ⟨g, off, rfl, hc⟩ := h hne
  exact ⟨g, off, cap, rfl, World.block_lt_of_cell? w _ (hc 0 (List.length_pos_iff.2 hne)), hc⟩

theorem grown_trans {w w1 w2 : World} {row : Option Nat} (h : w.grownBy w1 row) (g : w1.grownBy w2 row) : w.grownBy w2 row :=
  ⟨g.os.trans h.os, g.tape.trans h.tape, g.output.trans h.output, Nat.le_trans h.size g.size, fun k hk hne => (g.block k (Nat.lt_of_lt_of_le hk h.size) hne).trans (h.block k hk hne)⟩

set_option maxHeartbeats 800000 in
theorem others_row (v u : Value) (xs qs : List Int) (w : World) (h : Rd w v xs) (hq : Rd w u qs) (hn : 1 ≤ xs.length ∧ xs.length ≤ 3) (hl : qs.length = xs.length)
    (hx : ∀ j, j < xs.length → 0 ≤ xs.getD j 0 ∧ xs.getD j 0 ≤ 10) (hy : ∀ j, j < xs.length → 0 ≤ qs.getD j 0 ∧ qs.getD j 0 ≤ 10) :
    Calls Try.prog 42 #[v, u] w fun e w' => ∃ g cap, e = .returned (.slice (some ⟨g, 0, none⟩) xs.length cap) ∧ xs.length ≤ cap ∧ cap ≤ maxLen ∧ w.heap.size ≤ g ∧ g < w'.heap.size ∧ RowAt w' g xs.length (othF xs qs) ∧ Below w.heap.size w w' := by
  have hne : xs ≠ [] := by intro e; rw [e] at hn; simp at hn
  have hneq : qs ≠ [] := by intro e; rw [e] at hl; simp at hl; omega
  have kc := Lib.hid (clone_row v xs w h hne (by omega))
  obtain ⟨gq, oq, cq, rfl, hgq, hcq⟩ := hq.cells hneq
  have HX := Lib.hid hx
  have HY := Lib.hid hy
  have HCQ := Lib.hid hcq
  rw [hl] at HCQ ⊢
  generalize hnn : xs.length = n at *
  obtain ⟨hn1, hn2⟩ := hn
  clear hx hy hcq hl hnn hne hneq h hq
  go_enter Try.func42, Try.ntmps42
  go_wp2_with (first | (go_at_call 52; (with_reducible refine kc.out.mono ?_); rintro e w1 ⟨g, cap, rfl, hnc, hcm, hg0, hg1, hr1, hb1⟩))
  have HCM := Lib.hid hcm
  clear hcm
  go_loopw [12] (fun q wr => ∃ k : Nat, k ≤ n ∧ q = .int .i64 k ∧ RowAt wr g n (fun j => if j < k then othF xs qs j else xs.getD j 0) ∧ w1.grownBy wr (some g)) (fun q _ => n - (intOf q).toNat)
  case atStart => exact ⟨0, by omega, rfl, hr1.congr (fun j hj => by rw [if_neg (by omega)]), World.grownBy.refl _ _⟩
  case round =>
    clear hr1
    obtain ⟨k, hk, rfl, hr, hgr⟩ := hrel
    by_cases hlt : k < n
    · have c1 := hr.cell k hlt
      have f1 := hr.free k hlt
      rw [if_neg (by omega)] at c1
      have c2 : wr.cell? ⟨gq, oq + k, none⟩ = some (.int .i64 (qs.getD k 0)) :=
        hgr.cell ((hb1.cell (p := ⟨gq, oq + k, none⟩) hgq).trans (HCQ.out k hlt)) (by simp; omega)
      have hx := HX.out k hlt
      have hy := HY.out k hlt
      have HF : Hid (othF xs qs k = xs.getD k 0 - qs.getD k 0) := rfl
      generalize xs.getD k 0 = x at *
      generalize qs.getD k 0 = y at *
      have hi0 : (0 : Int) ≤ (k : Int) := by omega
      have hi1 : (k : Int) < (n : Int) := by omega
      go_wp2_with fail
      go_roundw
      case rel =>
        refine ⟨k + 1, by omega, by go_num, (hr.set k _).congr (fun j hj => ?_), grownBy_set hgr _ _⟩
        by_cases ej : j = k
        · subst ej; rw [if_pos rfl, if_pos (by omega)]; exact HF.out.symm
        · rw [if_neg ej]
          by_cases l : j < k
          · rw [if_pos l, if_pos (by omega)]
          · rw [if_neg l, if_neg (by omega)]
      case measure => simp [intOf]; omega
    · have hkn : k = n := by omega
      have HK := Lib.hid hkn
      clear hkn
      go_wp2_with fail
      go_ret
      refine ⟨g, cap, rfl, hnc, HCM.out, hg0, Nat.lt_of_lt_of_le hg1 hgr.size, hr.congr (fun j hj => by rw [if_pos (by rw [HK.out]; exact hj)]), hb1.grown hgr hb1.size (fun k' hk' => by cases hk'; exact hg0)⟩
end Go.Proofs.Ytfhklaoemfhamaa
