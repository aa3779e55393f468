/- The reader of a code: l20Open, pick, odd; the fixed answers (alive). -/
import Derived.Test.YtkkjgcpkimjfkaaProg
import Derived.Test.YtkkjgcpkimjfkaaSlices
import Derived.OpenShut
namespace Go.Proofs.Ytkkjgcpkimjfkaa
open Go.RowKit

/-- Block R holds a reader: at most 2000 bytes, at a place of at most n. -/
def Rdr (w : World) (R n : Nat) : Prop :=
  ∃ (a : Option Addr) (len cap p : Nat), w.cell? ⟨R, 0, none⟩ = some (.slice a len cap) ∧ w.cell? ⟨R, 1, none⟩ = some (.int .i64 p) ∧ w.frozen? ⟨R, 1, none⟩ = false ∧ p ≤ n ∧ len ≤ 2000 ∧
    (len ≠ 0 → ∃ g off, a = some ⟨g, off, none⟩ ∧ g ≠ R ∧ ∀ j, j < len → ∃ x : Nat, x < 256 ∧ w.cell? ⟨g, off + j, none⟩ = some (.int .u8 x))

theorem Rdr.below {w w' : World} {R n : Nat} (h : Rdr w R n) (b : Below w.heap.size w w') : Rdr w' R n := by
  obtain ⟨a, len, cap, p, h1, h2, h3, h4, h5, h6⟩ := h
  have lt := World.block_lt_of_cell? w _ h1
  refine ⟨a, len, cap, p, (b.cell (p := ⟨R, 0, none⟩) lt).trans h1, (b.cell (p := ⟨R, 1, none⟩) lt).trans h2, (b.frozen (p := ⟨R, 1, none⟩) lt).trans h3, h4, h5, fun hn => ?_⟩
  obtain ⟨g, off, e, hne, hc⟩ := h6 hn
  refine ⟨g, off, e, hne, fun j hj => ?_⟩
  obtain ⟨x, hx, hcell⟩ := hc j hj
  exact ⟨x, hx, (b.cell (p := ⟨g, off + j, none⟩) (World.block_lt_of_cell? w _ hcell)).trans hcell⟩

theorem Rdr.lt {w : World} {R n : Nat} (h : Rdr w R n) : R < w.heap.size := by
  obtain ⟨a, len, cap, p, h1, _⟩ := h
  exact World.block_lt_of_cell? w _ h1

/-- The reader's place has gone on by one. -/
theorem Rdr.step {w : World} {R n : Nat} {a : Option Addr} {len cap p : Nat} (h1 : w.cell? ⟨R, 0, none⟩ = some (.slice a len cap)) (h2 : w.cell? ⟨R, 1, none⟩ = some (.int .i64 p)) (h3 : w.frozen? ⟨R, 1, none⟩ = false)
    (h4 : p ≤ n) (h5 : len ≤ 2000) (h6 : len ≠ 0 → ∃ g off, a = some ⟨g, off, none⟩ ∧ g ≠ R ∧ ∀ j, j < len → ∃ x : Nat, x < 256 ∧ w.cell? ⟨g, off + j, none⟩ = some (.int .u8 x)) :
    Rdr (w.setCell ⟨R, 1, none⟩ (.int .i64 ((p : Int) + 1))) R (n + 1) := by
  refine ⟨a, len, cap, p + 1, ?_, ?_, ?_, by omega, h5, fun hn => ?_⟩
  · rw [World.cell?_setCell_other _ _ _ _ (by intro e; injection e with _ e2 _; cases e2)]; exact h1
  · rw [World.cell?_setCell_same _ _ _ h2]; simp
  · rw [World.frozen?_setCell]; exact h3
  · obtain ⟨g, off, e, hne, hc⟩ := h6 hn
    refine ⟨g, off, e, hne, fun j hj => ?_⟩
    obtain ⟨x, hx, hcell⟩ := hc j hj
    refine ⟨x, hx, ?_⟩
    rw [World.cell?_setCell_other _ _ _ _ (by intro e; injection e with e1 _ _; exact hne e1.symm)]
    exact hcell

theorem Rdr.drewN {w : World} {R n : Nat} (h : Rdr w R n) (m : Nat) : Rdr (w.drewN m) R n := h.below (below_drewN (Below.refl _ _) m)

theorem i64_xor_nat (a b : Nat) (ha : a < 4611686018427387904) (hb : b < 4611686018427387904) : bits .xor .i64 (a : Int) (b : Int) = ((a ^^^ b : Nat) : Int) := by
  have hx : a ^^^ b < 2 ^ 62 := Nat.xor_lt_two_pow (by omega) (by omega)
  show IntKind.i64.wrap ((BitVec.ofInt 64 (a : Int) ^^^ BitVec.ofInt 64 (b : Int)).toNat : Int) = _
  have h1 : (BitVec.ofInt 64 (a : Int)).toNat = a := by rw [ofInt_u64 a (by omega)]
  have h2 : (BitVec.ofInt 64 (b : Int)).toNat = b := by rw [ofInt_u64 b (by omega)]
  rw [BitVec.toNat_xor, h1, h2]
  exact IntWalk.i64_in _ (by omega)

theorem grownBy_drewN {w w1 : World} {row : Option Nat} (h : w.grownBy w1 row) (n : Nat) : w.grownBy (w1.drewN n) row := ⟨h.os, h.tape, h.output, h.size, h.block⟩

def Picked (n : Int) (R N : Nat) (w : World) (e : Ending) (w' : World) : Prop :=
  ∃ v : Int, e = .returned (.int .i64 v) ∧ 0 ≤ v ∧ v < n ∧ Rdr w' R (N + 1) ∧ w.grownBy w' (some R)

set_option maxHeartbeats 2000000 in
theorem pick_any (R N : Nat) (n : Int) (hn : 1 ≤ n) (hn2 : n ≤ 1000000000) (hN : N ≤ 1000000000) (w : World) (h : Rdr w R N) :
    Calls Try.prog 61 #[.pointer (some ⟨R, 0, none⟩), .int .i64 n] w (Picked n R N w) := by
  obtain ⟨a, len, cap, p, h1, h2, h3, h4, h5, h6⟩ := h
  have hstep := Rdr.step h1 h2 h3 h4 h5 h6
  by_cases hl : len = 0
  · subst hl
    clear h6
    go_enter Try.func61, Try.ntmps61
    go_wp2_with fail
    go_ret
    exact ⟨0, rfl, by omega, by omega, hstep, grownBy_set (World.grownBy.refl _ _) _ _⟩
  · obtain ⟨g, off, rfl, hne, hc⟩ := h6 hl
    clear h6
    have hl0 : ((len : Int) == 0) = false := by simp; omega
    have hl1 : 0 < len := by omega
    clear hl
    by_cases hk : p < len
    · obtain ⟨x, hx, hcx⟩ := hc p hk
      clear hc
      go_enter Try.func61, Try.ntmps61
      go_wp2_with fail
      go_ret
      exact ⟨_, rfl, Int.emod_nonneg _ (by omega), Int.emod_lt_of_pos _ (by omega), hstep, grownBy_set (World.grownBy.refl _ _) _ _⟩
    · obtain ⟨i1, hi1⟩ : ∃ i, i = p % len := ⟨_, rfl⟩
      obtain ⟨i2, hi2⟩ : ∃ i, i = (p * 7 + 3) % len := ⟨_, rfl⟩
      obtain ⟨q, hq⟩ : ∃ q, q = p / len := ⟨_, rfl⟩
      have l1 : i1 < len := by rw [hi1]; exact Nat.mod_lt _ (by omega)
      have l2 : i2 < len := by rw [hi2]; exact Nat.mod_lt _ (by omega)
      have hqp : q ≤ p := by rw [hq]; exact Nat.div_le_self _ _
      have e1 : (p : Int) % (len : Int) = (i1 : Int) := by rw [hi1]; rfl
      have e1' : (p : Int).tmod (len : Int) = (i1 : Int) := by rw [hi1]; rfl
      have e2 : ((p : Int) * 7 + 3) % (len : Int) = (i2 : Int) := by rw [hi2]; rfl
      have e2' : ((p : Int) * 7 + 3).tmod (len : Int) = (i2 : Int) := by rw [hi2]; rfl
      have e3 : (p : Int) / (len : Int) = (q : Int) := by rw [hq]; rfl
      have e3' : (p : Int).tdiv (len : Int) = (q : Int) := by rw [hq]; rfl
      clear hi1 hi2 hq
      obtain ⟨x, hx, hcx⟩ := hc i1 l1
      obtain ⟨y, hy, hcy⟩ := hc i2 l2
      clear hc
      have a1 : IntKind.i64.wrap (p : Int) = p := IntWalk.i64_in _ (by omega)
      have a2 : IntKind.i64.wrap ((p : Int) * 7) = p * 7 := IntWalk.i64_in _ (by omega)
      have a3 : IntKind.i64.wrap ((p : Int) * 7 + 3) = p * 7 + 3 := IntWalk.i64_in _ (by omega)
      have a4 : IntKind.i64.wrap ((x : Int) * 131) = x * 131 := IntWalk.i64_in _ (by omega)
      have a5 : IntKind.i64.wrap ((y : Int) * 1117) = y * 1117 := IntWalk.i64_in _ (by omega)
      have a6 : IntKind.i64.wrap ((x : Int) * 131 + y * 1117) = x * 131 + y * 1117 := IntWalk.i64_in _ (by omega)
      have a7 : IntKind.i64.wrap ((p : Int) * 29) = p * 29 := IntWalk.i64_in _ (by omega)
      have a8 : IntKind.i64.wrap ((x : Int) * 131 + y * 1117 + p * 29) = x * 131 + y * 1117 + p * 29 := IntWalk.i64_in _ (by omega)
      have a9 : IntKind.i64.wrap ((q : Int) * 53) = q * 53 := IntWalk.i64_in _ (by omega)
      obtain ⟨X, hX⟩ : ∃ X : Nat, X = x * 131 + y * 1117 + p * 29 + q * 53 := ⟨_, rfl⟩
      have a10 : IntKind.i64.wrap ((x : Int) * 131 + y * 1117 + p * 29 + q * 53) = (X : Int) := by rw [hX]; exact IntWalk.i64_in _ (by omega)
      have hXb : X < 1000000000000 := by omega
      clear hX
      obtain ⟨Y, hY⟩ : ∃ Y : Nat, Y = X ^^^ X / 64 := ⟨_, rfl⟩
      have b1 : bits .xor .i64 (X : Int) ((X : Int) / 64) = (Y : Int) := by rw [hY]; exact i64_xor_nat X (X / 64) (by omega) (by omega)
      clear hY
      have a11 : IntKind.i64.wrap (x : Int) = x := IntWalk.i64_in _ (by omega)
      have a12 : IntKind.i64.wrap (y : Int) = y := IntWalk.i64_in _ (by omega)
      have a13 : IntKind.i64.wrap (q : Int) = q := IntWalk.i64_in _ (by omega)
      have t2 : (len : Int) ≠ 0 := by omega
      have t3 : len ≠ 0 := by omega
      go_enter Try.func61, Try.ntmps61
      go_wp2_with fail
      go_quiet (fail)
      clear a1 a2 a3 a4 a5 a6 a7 a8 a9 a10 a11 a12 a13 e1 e1' e2 e2' e3 e3'
      go_wp2_with fail
      go_ret
      exact ⟨_, rfl, Int.emod_nonneg _ (by omega), Int.emod_lt_of_pos _ (by omega), hstep.drewN _, grownBy_drewN (grownBy_set (World.grownBy.refl _ _) _ _) _⟩

def OddPost (R N : Nat) (w : World) (e : Ending) (w' : World) : Prop :=
  ∃ b : Bool, e = .returned (.bool b) ∧ Rdr w' R (N + 1) ∧ w.grownBy w' (some R)

theorem Rdr.more {w : World} {R n m : Nat} (h : Rdr w R n) (hm : n ≤ m) : Rdr w R m := by
  obtain ⟨a, len, cap, p, h1, h2, h3, h4, h5, h6⟩ := h
  exact ⟨a, len, cap, p, h1, h2, h3, by omega, h5, h6⟩

set_option maxHeartbeats 1000000 in
theorem odd_any (R N : Nat) (n : Int) (hn : 0 ≤ n) (hn2 : n ≤ 1000000000) (hN : N ≤ 1000000000) (w : World) (h : Rdr w R N) :
    Calls Try.prog 72 #[.pointer (some ⟨R, 0, none⟩), .int .i64 n] w (OddPost R N w) := by
  by_cases h0 : n = 0
  · subst h0
    go_enter Try.func72, Try.ntmps72
    go_wp2_with fail
    go_ret
    exact ⟨_, rfl, h.more (by omega), World.grownBy.refl _ _⟩
  · have hp : 0 < n := by omega
    clear h0
    go_enter Try.func72, Try.ntmps72
    go_wp2_with fail
    refine (pick_any R N n (by omega) hn2 hN _ h).mono ?_
    rintro e w1 ⟨v, rfl, hv0, hv1, hr, hg⟩
    go_wp2_with fail
    go_ret
    exact ⟨_, rfl, hr, hg⟩

/-- The code of a law as it came in, its bytes. -/
def Code8 (w : World) (a : Option Addr) (len cap : Nat) : Prop :=
  len ≤ cap ∧ cap ≤ maxLen ∧ (len ≠ 0 → ∃ g off, a = some ⟨g, off, none⟩ ∧ g < w.heap.size ∧ ∀ j, j < len → ∃ x : Nat, x < 256 ∧ w.cell? ⟨g, off + j, none⟩ = some (.int .u8 x))

theorem Code8.of_row {w : World} {a : Option Addr} {len cap : Nat} {zs : List Int} (h : IsRow .u8 w a len cap zs) : Code8 w a len cap := by
  rcases h with ⟨rfl, rfl, rfl, rfl⟩ | ⟨x, rfl, hl, hm, hz, hcell, hwf⟩
  · exact ⟨Nat.le_refl _, by simp [maxLen], fun h => absurd rfl h⟩
  · refine ⟨hl, hm, fun hn => ?_⟩
    obtain ⟨b, off, spot⟩ := x
    have h0 := hcell 0 (by omega)
    have hspot : spot = none := by simpa [Addr.add] using World.cell?_spot h0
    subst hspot
    refine ⟨b, off, rfl, by have := World.block_lt_of_cell? w _ h0; simpa [Addr.add] using this, fun j hj => ?_⟩
    have h1 := hcell j (by omega)
    rw [Addr.add_lit] at h1
    have hw := hwf (zs.getD j 0) (by rw [List.getD_eq_getElem?_getD, List.getElem?_eq_getElem (by omega)]; simp)
    have hb : 0 ≤ zs.getD j 0 ∧ zs.getD j 0 ≤ 255 := bounds_u8 hw
    exact ⟨(zs.getD j 0).toNat, by omega, by rw [h1]; congr 2; omega⟩

set_option maxHeartbeats 1000000 in
theorem open_any (a : Option Addr) (len cap : Nat) (w : World) (h : Code8 w a len cap) :
    Calls Try.prog 57 #[.slice a len cap] w fun e w' => e = .returned (.pointer (some ⟨w.heap.size, 0, none⟩)) ∧ Rdr w' w.heap.size 0 ∧ Below w.heap.size w w' := by
  obtain ⟨hlc, hcm, h⟩ := h
  unfold maxLen at hcm
  have hc : ∀ o, len ≠ 0 → ∃ g off, a = some ⟨g, off, none⟩ ∧ g ≠ w.heap.size ∧ ∀ j, j < len → ∃ x : Nat, x < 256 ∧ (w.alloc o).cell? ⟨g, off + j, none⟩ = some (.int .u8 x) := by
    intro o hn
    obtain ⟨g, off, e, hlt, hc⟩ := h hn
    refine ⟨g, off, e, by omega, fun j hj => ?_⟩
    obtain ⟨x, hx, hcx⟩ := hc j hj
    exact ⟨x, hx, (World.cell?_of_block (a := ⟨g, off + j, none⟩) (Below.heap_alloc w o g hlt)).trans hcx⟩
  have HC := Lib.hid hc
  clear hc h
  by_cases hl : len ≤ 2000
  · go_enter Try.func57, Try.ntmps57
    go_wp2_with fail
    go_ret
    refine ⟨rfl, ⟨a, len, cap, 0, by simp, by simp, by simp, Nat.le_refl _, hl, fun hn => HC.out _ hn⟩, (Below.refl _ _).alloc (Nat.le_refl _) _⟩
  · obtain ⟨g, off, rfl, hg, hcc⟩ := HC.out (.cells #[] 0) (by omega)
    have hcap : 2000 ≤ cap := by omega
    have hcap2 : (2000 : Int) ≤ (cap : Int) := by omega
    clear hcc
    go_enter Try.func57, Try.ntmps57
    go_wp2_with fail
    go_ret
    refine ⟨rfl, ⟨some ⟨g, off, none⟩, 2000, cap, 0, by simp, by simp, by simp, Nat.le_refl _, by omega, fun hn => ?_⟩, (Below.refl _ _).alloc (Nat.le_refl _) _⟩
    obtain ⟨g', off', e, hne, hcx⟩ := HC.out _ (by omega)
    exact ⟨g', off', e, hne, fun j hj => hcx j (by omega)⟩
end Go.Proofs.Ytkkjgcpkimjfkaa
