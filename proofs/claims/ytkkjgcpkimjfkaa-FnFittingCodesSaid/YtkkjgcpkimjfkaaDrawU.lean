/- The reader of a code, with the blocks that it reads below a base: what is made from the base on leaves it alone. -/
import Derived.Test.YtkkjgcpkimjfkaaProg
import Derived.Test.YtkkjgcpkimjfkaaDraw
import Derived.Test.YtkkjgcpkimjfkaaGrow
namespace Go.Proofs.Ytkkjgcpkimjfkaa
open Go.RowKit

def RdU (w : World) (R n base : Nat) : Prop :=
  R < base ∧ ∃ (a : Option Addr) (len cap p : Nat), w.cell? ⟨R, 0, none⟩ = some (.slice a len cap) ∧ w.cell? ⟨R, 1, none⟩ = some (.int .i64 p) ∧ w.frozen? ⟨R, 1, none⟩ = false ∧ p ≤ n ∧ len ≤ 2000 ∧
    (len ≠ 0 → ∃ g off, a = some ⟨g, off, none⟩ ∧ g ≠ R ∧ g < base ∧ ∀ j, j < len → ∃ x : Nat, x < 256 ∧ w.cell? ⟨g, off + j, none⟩ = some (.int .u8 x))

theorem RdU.below {w w' : World} {R n base : Nat} (h : RdU w R n base) (b : Below base w w') : RdU w' R n base := by
  obtain ⟨h0, a, len, cap, p, h1, h2, h3, h4, h5, h6⟩ := h
  refine ⟨h0, a, len, cap, p, (b.cell (p := ⟨R, 0, none⟩) h0).trans h1, (b.cell (p := ⟨R, 1, none⟩) h0).trans h2, (b.frozen (p := ⟨R, 1, none⟩) h0).trans h3, h4, h5, fun hn => ?_⟩
  obtain ⟨g, off, e, hne, hgb, hc⟩ := h6 hn
  refine ⟨g, off, e, hne, hgb, fun j hj => ?_⟩
  obtain ⟨x, hx, hcell⟩ := hc j hj
  exact ⟨x, hx, (b.cell (p := ⟨g, off + j, none⟩) hgb).trans hcell⟩

theorem RdU.base {w : World} {R n base base' : Nat} (h : RdU w R n base) (hb : base ≤ base') : RdU w R n base' := by
  obtain ⟨h0, a, len, cap, p, h1, h2, h3, h4, h5, h6⟩ := h
  refine ⟨by omega, a, len, cap, p, h1, h2, h3, h4, h5, fun hn => ?_⟩
  obtain ⟨g, off, e, hne, hgb, hc⟩ := h6 hn
  exact ⟨g, off, e, hne, by omega, hc⟩

theorem RdU.more {w : World} {R n m base : Nat} (h : RdU w R n base) (hm : n ≤ m) : RdU w R m base := by
  obtain ⟨h0, a, len, cap, p, h1, h2, h3, h4, h5, h6⟩ := h
  exact ⟨h0, a, len, cap, p, h1, h2, h3, by omega, h5, h6⟩

theorem RdU.drewN {w : World} {R n base : Nat} (h : RdU w R n base) (hb : base ≤ w.heap.size) (m : Nat) : RdU (w.drewN m) R n base := h.below ((below_drewN (Below.refl _ _) m).mono hb)

theorem Rdr.toU {w : World} {R n : Nat} (h : Rdr w R n) : RdU w R n w.heap.size := by
  have h0 := h.lt
  obtain ⟨a, len, cap, p, h1, h2, h3, h4, h5, h6⟩ := h
  refine ⟨h0, a, len, cap, p, h1, h2, h3, h4, h5, fun hn => ?_⟩
  obtain ⟨g, off, e, hne, hc⟩ := h6 hn
  refine ⟨g, off, e, hne, ?_, hc⟩
  obtain ⟨x, _, hx⟩ := hc 0 (by omega)
  exact World.block_lt_of_cell? w _ hx

theorem RdU.step {w : World} {R n base : Nat} {a : Option Addr} {len cap p : Nat} (h0 : R < base) (h1 : w.cell? ⟨R, 0, none⟩ = some (.slice a len cap)) (h2 : w.cell? ⟨R, 1, none⟩ = some (.int .i64 p)) (h3 : w.frozen? ⟨R, 1, none⟩ = false)
    (h4 : p ≤ n) (h5 : len ≤ 2000) (h6 : len ≠ 0 → ∃ g off, a = some ⟨g, off, none⟩ ∧ g ≠ R ∧ g < base ∧ ∀ j, j < len → ∃ x : Nat, x < 256 ∧ w.cell? ⟨g, off + j, none⟩ = some (.int .u8 x)) :
    RdU (w.setCell ⟨R, 1, none⟩ (.int .i64 ((p : Int) + 1))) R (n + 1) base ∧ ∀ m, RdU ((w.setCell ⟨R, 1, none⟩ (.int .i64 ((p : Int) + 1))).drewN m) R (n + 1) base := by
  have key : RdU (w.setCell ⟨R, 1, none⟩ (.int .i64 ((p : Int) + 1))) R (n + 1) base := by
    refine ⟨h0, a, len, cap, p + 1, ?_, ?_, ?_, by omega, h5, fun hn => ?_⟩
    · rw [World.cell?_setCell_other _ _ _ _ (by intro e; injection e with _ e2 _; cases e2)]; exact h1
    · rw [World.cell?_setCell_same _ _ _ h2]; simp
    · rw [World.frozen?_setCell]; exact h3
    · obtain ⟨g, off, e, hne, hgb, hc⟩ := h6 hn
      refine ⟨g, off, e, hne, hgb, fun j hj => ?_⟩
      obtain ⟨x, hx, hcell⟩ := hc j hj
      refine ⟨x, hx, ?_⟩
      rw [World.cell?_setCell_other _ _ _ _ (by intro e; injection e with e1 _ _; exact hne e1.symm)]
      exact hcell
  exact ⟨key, fun m => key.below (below_drewN (Below.refl _ _) m)⟩

def PickedU (n : Int) (R N base : Nat) (w : World) (e : Ending) (w' : World) : Prop :=
  ∃ v : Int, e = .returned (.int .i64 v) ∧ 0 ≤ v ∧ v < n ∧ RdU w' R (N + 1) base ∧ w.grownBy w' (some R)

set_option maxHeartbeats 2000000 in
theorem pick_u (R N : Nat) (n : Int) (hn : 1 ≤ n) (hn2 : n ≤ 1000000000) (hN : N ≤ 1000000000) (w : World) (base : Nat) (h : RdU w R N base) :
    Calls Try.prog 61 #[.pointer (some ⟨R, 0, none⟩), .int .i64 n] w (PickedU n R N base w) := by
  obtain ⟨h0, a, len, cap, p, h1, h2, h3, h4, h5, h6⟩ := h
  have hstep := RdU.step h0 h1 h2 h3 h4 h5 h6
  clear h0
  by_cases hl : len = 0
  · subst hl
    clear h6
    go_enter Try.func61, Try.ntmps61
    go_wp2_with fail
    go_ret
    exact ⟨0, rfl, by omega, by omega, hstep.1, grownBy_set (World.grownBy.refl _ _) _ _⟩
  · obtain ⟨g, off, rfl, hne, _, hc⟩ := h6 hl
    clear h6
    have hl0 : ((len : Int) == 0) = false := by simp; omega
    have hl1 : 0 < len := by omega
    clear hl
    by_cases hk : p < len
    · obtain ⟨x, hx, hcx⟩ := hc p hk
      clear hc
      go_enter Try.func61, Try.ntmps61
      go_wp2_with fail
      go_ret
      exact ⟨_, rfl, Int.emod_nonneg _ (by omega), Int.emod_lt_of_pos _ (by omega), hstep.1, grownBy_set (World.grownBy.refl _ _) _ _⟩
    · obtain ⟨i1, hi1⟩ : ∃ i, i = p % len := ⟨_, rfl⟩
      obtain ⟨i2, hi2⟩ : ∃ i, i = (p * 7 + 3) % len := ⟨_, rfl⟩
      obtain ⟨q, hq⟩ : ∃ q, q = p / len := ⟨_, rfl⟩
      have l1 : i1 < len := by rw [hi1]; exact Nat.mod_lt _ (by omega)
      have l2 : i2 < len := by rw [hi2]; exact Nat.mod_lt _ (by omega)
      have hqp : q ≤ p := by rw [hq]; exact Nat.div_le_self _ _
      have e1 : (p : Int) % (len : Int) = (i1 : Int) := by rw [hi1]; rfl
      have e1' : (p : Int).tmod (len : Int) = (i1 : Int) := by rw [hi1]; rfl
      have e2 : ((p : Int) * 7 + 3) % (len : Int) = (i2 : Int) := by rw [hi2]; rfl
      have e2' : ((p : Int) * 7 + 3).tmod (len : Int) = (i2 : Int) := by rw [hi2]; rfl
      have e3 : (p : Int) / (len : Int) = (q : Int) := by rw [hq]; rfl
      have e3' : (p : Int).tdiv (len : Int) = (q : Int) := by rw [hq]; rfl
      clear hi1 hi2 hq
      obtain ⟨x, hx, hcx⟩ := hc i1 l1
      obtain ⟨y, hy, hcy⟩ := hc i2 l2
      clear hc
      have a1 : IntKind.i64.wrap (p : Int) = p := IntWalk.i64_in _ (by omega)
      have a2 : IntKind.i64.wrap ((p : Int) * 7) = p * 7 := IntWalk.i64_in _ (by omega)
      have a3 : IntKind.i64.wrap ((p : Int) * 7 + 3) = p * 7 + 3 := IntWalk.i64_in _ (by omega)
      have a4 : IntKind.i64.wrap ((x : Int) * 131) = x * 131 := IntWalk.i64_in _ (by omega)
      have a5 : IntKind.i64.wrap ((y : Int) * 1117) = y * 1117 := IntWalk.i64_in _ (by omega)
      have a6 : IntKind.i64.wrap ((x : Int) * 131 + y * 1117) = x * 131 + y * 1117 := IntWalk.i64_in _ (by omega)
      have a7 : IntKind.i64.wrap ((p : Int) * 29) = p * 29 := IntWalk.i64_in _ (by omega)
      have a8 : IntKind.i64.wrap ((x : Int) * 131 + y * 1117 + p * 29) = x * 131 + y * 1117 + p * 29 := IntWalk.i64_in _ (by omega)
      have a9 : IntKind.i64.wrap ((q : Int) * 53) = q * 53 := IntWalk.i64_in _ (by omega)
      obtain ⟨X, hX⟩ : ∃ X : Nat, X = x * 131 + y * 1117 + p * 29 + q * 53 := ⟨_, rfl⟩
      have a10 : IntKind.i64.wrap ((x : Int) * 131 + y * 1117 + p * 29 + q * 53) = (X : Int) := by rw [hX]; exact IntWalk.i64_in _ (by omega)
      have hXb : X < 1000000000000 := by omega
      clear hX
      obtain ⟨Y, hY⟩ : ∃ Y : Nat, Y = X ^^^ X / 64 := ⟨_, rfl⟩
      have b1 : bits .xor .i64 (X : Int) ((X : Int) / 64) = (Y : Int) := by rw [hY]; exact i64_xor_nat X (X / 64) (by omega) (by omega)
      clear hY
      have a11 : IntKind.i64.wrap (x : Int) = x := IntWalk.i64_in _ (by omega)
      have a12 : IntKind.i64.wrap (y : Int) = y := IntWalk.i64_in _ (by omega)
      have a13 : IntKind.i64.wrap (q : Int) = q := IntWalk.i64_in _ (by omega)
      have t2 : (len : Int) ≠ 0 := by omega
      have t3 : len ≠ 0 := by omega
      go_enter Try.func61, Try.ntmps61
      go_wp2_with fail
      go_quiet (fail)
      clear a1 a2 a3 a4 a5 a6 a7 a8 a9 a10 a11 a12 a13 e1 e1' e2 e2' e3 e3'
      go_wp2_with fail
      go_ret
      exact ⟨_, rfl, Int.emod_nonneg _ (by omega), Int.emod_lt_of_pos _ (by omega), hstep.2 _, grownBy_drewN (grownBy_set (World.grownBy.refl _ _) _ _) _⟩

def OddPostU (R N base : Nat) (w : World) (e : Ending) (w' : World) : Prop :=
  ∃ b : Bool, e = .returned (.bool b) ∧ RdU w' R (N + 1) base ∧ w.grownBy w' (some R)

set_option maxHeartbeats 1000000 in
theorem odd_u (R N : Nat) (n : Int) (hn : 0 ≤ n) (hn2 : n ≤ 1000000000) (hN : N ≤ 1000000000) (w : World) (base : Nat) (h : RdU w R N base) :
    Calls Try.prog 72 #[.pointer (some ⟨R, 0, none⟩), .int .i64 n] w (OddPostU R N base w) := by
  by_cases h0 : n = 0
  · subst h0
    go_enter Try.func72, Try.ntmps72
    go_wp2_with fail
    go_ret
    exact ⟨_, rfl, h.more (by omega), World.grownBy.refl _ _⟩
  · have hp : 0 < n := by omega
    clear h0
    go_enter Try.func72, Try.ntmps72
    go_wp2_with fail
    refine (pick_u R N n (by omega) hn2 hN _ base h).mono ?_
    rintro e w1 ⟨v, rfl, hv0, hv1, hr, hg⟩
    go_wp2_with fail
    go_ret
    exact ⟨_, rfl, hr, hg⟩
end Go.Proofs.Ytkkjgcpkimjfkaa
