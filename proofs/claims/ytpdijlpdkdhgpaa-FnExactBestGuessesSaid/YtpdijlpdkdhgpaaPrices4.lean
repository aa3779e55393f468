/- Runs as keys of a map. -/
import Derived.Test.YtpdijlpdkdhgpaaProg
import Derived.Test.YtpdijlpdkdhgpaaMaps
import Derived.DeepKeys4
import Derived.WalkArith
namespace Go.Proofs.Ytpdijlpdkdhgpaa
open Go.RowKit

theorem YtpdijlpdkdhgpaalaidOut : laidOutB Try.prog = true := by kernel_rfl
theorem YtpdijlpdkdhgpaakeyRun : Maps.Keyed Try.prog 43 := Maps.Keyed.of_law (deep_law_laid YtpdijlpdkdhgpaalaidOut (m := 2) (by omega) (of_decide_eq_true (by kernel_rfl)) (by kernel_rfl) (by rw [Try.underlying43]))

/-- a run as a value -/
def kv (i : Nat × Nat) : Value := .agg #[.int .i64 i.1, .int .i64 i.2]
theorem kv_inj (i j : Nat × Nat) (h : kv i = kv j) : i = j := by
  unfold kv at h
  simp only [Value.agg.injEq, Array.mk.injEq, List.cons.injEq, Value.int.injEq, true_and, and_true] at h
  obtain ⟨a, b⟩ := i
  obtain ⟨c, d⟩ := j
  simp only [Prod.mk.injEq]
  simp only at h
  omega
theorem kv_key (a b : Nat) (ha : a ≤ 1000) (hb : b ≤ 1000) : ∃ l, keyOf Try.prog 43 (kv (a, b)) = some l := by
  have h1 : (Lit.int .i64 (a : Int)).wf = true := WalkArith.wf_i64 (by omega)
  have h2 : (Lit.int .i64 (b : Int)).wf = true := WalkArith.wf_i64 (by omega)
  have hk : Try.prog.keyType 43 = true := by kernel_rfl
  have hc : Try.prog.cellsOf 43 = 2 := by kernel_rfl
  have hi : Try.prog.cellsOf 3 = 1 := by kernel_rfl
  have hf : (kv (a, b)).formed Try.prog 43 = true := by simp [kv, Value.formed, Try.underlying43, hc]
  obtain ⟨n, hn⟩ : ∃ n, Try.prog.types.size = n + 1 := ⟨Try.prog.types.size - 1, by kernel_rfl⟩
  unfold keyOf
  rw [hk, hf, hn]
  simp [Program.keyLits, Try.underlying43, Try.underlying3, kv, Value.cells, hc, hi, h1, h2]
end Go.Proofs.Ytpdijlpdkdhgpaa
