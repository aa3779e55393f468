/- The draws of trees. -/
import Derived.Test.YtbijpkphbepacaaProg
import Derived.Test.YtbijpkphbepacaaGrown3
namespace Go.Proofs.Ytbijpkphbepacaa
open Go.RowKit

/-- A number of things and a text are drawn. -/
def DGPost (w : World) (e : Ending) (w' : World) : Prop :=
  ∃ (m : Nat) (s : ByteArray), e = .returned (.tuple #[.int .i64 m, .string s]) ∧ 1 ≤ m ∧ m ≤ 9 ∧ s.size ≤ 200 ∧ Below w.heap.size w w'

theorem dg_of {w w1 w' : World} {e : Ending} {R N : Nat} (hb : Below w.heap.size w w1) (hR : w.heap.size ≤ R) (h : GrPost R N w1 e w') : DGPost w e w' := by
  obtain ⟨m, s, h1, h2, h3, h4, _, hg⟩ := h
  exact ⟨m, s, h1, h2, h3, h4, hb.trans (below_of_grownBy hg hb.size hR)⟩

theorem draw_TreeOk (a : Option Addr) (len cap : Nat) (w : World) (h : Code8 w a len cap) :
    Calls Try.prog 31 #[.slice a len cap] w (DGPost w) := by
  go_enter Try.func31, Try.ntmps31
  go_wp2_with fail
  refine (open_any a len cap _ h).mono ?_
  rintro e w1 ⟨rfl, hr1, hb1⟩
  go_wp2_with fail
  refine (grown_any _ 0 2 (by omega) (by omega) (by omega) _ hr1).mono ?_
  intro e w2 hp
  obtain ⟨m, s, rfl, h2, h3, h4, h5⟩ := dg_of hb1 (Nat.le_refl _) hp
  go_wp2_with fail
  go_ret2
  exact ⟨m, s, rfl, h2, h3, h4, h5⟩
theorem draw_DepthsOf (a : Option Addr) (len cap : Nat) (w : World) (h : Code8 w a len cap) :
    Calls Try.prog 32 #[.slice a len cap] w (DGPost w) := by
  go_enter Try.func32, Try.ntmps32
  go_wp2_with fail
  refine (open_any a len cap _ h).mono ?_
  rintro e w1 ⟨rfl, hr1, hb1⟩
  go_wp2_with fail
  refine (grown_any _ 0 9 (by omega) (by omega) (by omega) _ hr1).mono ?_
  intro e w2 hp
  obtain ⟨m, s, rfl, h2, h3, h4, h5⟩ := dg_of hb1 (Nat.le_refl _) hp
  go_wp2_with fail
  go_ret2
  exact ⟨m, s, rfl, h2, h3, h4, h5⟩
theorem draw_WorstOf (a : Option Addr) (len cap : Nat) (w : World) (h : Code8 w a len cap) :
    Calls Try.prog 35 #[.slice a len cap] w (DGPost w) := by
  go_enter Try.func35, Try.ntmps35
  go_wp2_with fail
  refine (open_any a len cap _ h).mono ?_
  rintro e w1 ⟨rfl, hr1, hb1⟩
  go_wp2_with fail
  refine (grown_any _ 0 9 (by omega) (by omega) (by omega) _ hr1).mono ?_
  intro e w2 hp
  obtain ⟨m, s, rfl, h2, h3, h4, h5⟩ := dg_of hb1 (Nat.le_refl _) hp
  go_wp2_with fail
  go_ret2
  exact ⟨m, s, rfl, h2, h3, h4, h5⟩
theorem draw_AskedFor (a : Option Addr) (len cap : Nat) (w : World) (h : Code8 w a len cap) :
    Calls Try.prog 34 #[.slice a len cap] w fun e w' => ∃ (m : Nat) (s : ByteArray) (k : Int), e = .returned (.tuple #[.int .i64 m, .string s, .int .i64 k]) ∧ 1 ≤ m ∧ m ≤ 9 ∧ s.size ≤ 200 ∧ -1 ≤ k ∧ k ≤ 9 ∧ Below w.heap.size w w' := by
  go_enter Try.func34, Try.ntmps34
  go_wp2_with fail
  refine (open_any a len cap _ h).mono ?_
  rintro e w1 ⟨rfl, hr1, hb1⟩
  go_wp2_with fail
  refine (grown_any _ 0 12 (by omega) (by omega) (by omega) _ hr1).mono ?_
  rintro e w2 ⟨m, s, rfl, h2, h3, h4, hr2, hg2⟩
  go_wp2_with fail
  refine (pick_u _ _ ((m : Int) + 1) (by omega) (by omega) (by omega) _ _ hr2.toU).mono ?_
  rintro e w3 ⟨x, rfl, hx0, hx1, hr3, hg3⟩
  go_wp2_with fail
  refine (pick_u _ _ 20 (by omega) (by omega) (by omega) _ _ hr3).mono ?_
  rintro e w4 ⟨y, rfl, hy0, hy1, hr4, hg4⟩
  obtain ⟨q, hq⟩ : ∃ q, Int.tdiv y 19 = q := ⟨_, rfl⟩
  have hq1 : 0 ≤ q ∧ q ≤ 1 := by
    rw [← hq, Int.tdiv_eq_ediv_of_nonneg hy0]
    omega
  have hB := hb1.trans (below_of_grownBy (grownBy_then2 (grownBy_then2 hg2 hg3) hg4) hb1.size (Nat.le_refl _))
  clear hr1 hb1 hr2 hg2 hr3 hg3 hr4 hg4
  go_wp2_with fail
  go_ret3
  exact ⟨m, s, _, rfl, h2, h3, h4, by omega, by omega, hB⟩
theorem draw_HalvesOf (a : Option Addr) (len cap : Nat) (w : World) (h : Code8 w a len cap) :
    Calls Try.prog 27 #[.slice a len cap] w fun e w' => ∃ k : Int, e = .returned (.int .i64 k) ∧ -1 ≤ k ∧ k ≤ 11 ∧ Below w.heap.size w w' := by
  go_enter Try.func27, Try.ntmps27
  go_wp2_with fail
  refine (open_any a len cap _ h).mono ?_
  rintro e w1 ⟨rfl, hr1, hb1⟩
  go_wp2_with fail
  refine (pick_u _ _ 12 (by omega) (by omega) (by omega) _ _ hr1.toU).mono ?_
  rintro e w2 ⟨x, rfl, hx0, hx1, hr2, hg2⟩
  have hB := hb1.trans (below_of_grownBy hg2 hb1.size (Nat.le_refl _))
  clear hr1 hb1 hr2 hg2
  go_wp2_with fail
  go_ret
  exact ⟨_, rfl, by omega, by omega, hB⟩
end Go.Proofs.Ytbijpkphbepacaa
