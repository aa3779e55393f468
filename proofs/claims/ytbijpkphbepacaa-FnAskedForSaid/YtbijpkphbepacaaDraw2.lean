/- The reader of a code, its answers as a function of its bytes. -/
import Derived.Test.YtbijpkphbepacaaProg
import Derived.Test.YtbijpkphbepacaaDraw
import Derived.Deep.RegionWith
namespace Go.Proofs.Ytbijpkphbepacaa
open Go.RowKit

/-- The bytes' mixture at a place behind the end. -/
def mixed (bs : List Nat) (p : Nat) : Nat :=
  bs.getD (p % bs.length) 0 * 131 + bs.getD ((p * 7 + 3) % bs.length) 0 * 1117 + p * 29 + p / bs.length * 53
/-- The reader's answer at place p. -/
def val (bs : List Nat) (p : Nat) (n : Int) : Int :=
  if bs.length = 0 then 0 else if p < bs.length then ((bs.getD p 0 : Nat) : Int) % n else (((mixed bs p) ^^^ (mixed bs p / 64) : Nat) : Int) % n

theorem val_lo (bs : List Nat) (p : Nat) (n : Int) (hn : 1 ≤ n) : 0 ≤ val bs p n := by
  unfold val; split
  · omega
  · split <;> exact Int.emod_nonneg _ (by omega)
theorem val_hi (bs : List Nat) (p : Nat) (n : Int) (hn : 1 ≤ n) : val bs p n < n := by
  unfold val; split
  · omega
  · split <;> exact Int.emod_lt_of_pos _ (by omega)

/-- Block R holds a reader of the bytes bs, at place p. -/
def RdB (w : World) (R : Nat) (bs : List Nat) (p : Nat) : Prop :=
  bs.length ≤ 2000 ∧ (∀ x ∈ bs, x < 256) ∧ ∃ (a : Option Addr) (cap : Nat), w.cell? ⟨R, 0, none⟩ = some (.slice a bs.length cap) ∧ w.cell? ⟨R, 1, none⟩ = some (.int .i64 p) ∧ w.frozen? ⟨R, 1, none⟩ = false ∧
    (bs.length ≠ 0 → ∃ g off, a = some ⟨g, off, none⟩ ∧ g ≠ R ∧ ∀ j, j < bs.length → w.cell? ⟨g, off + j, none⟩ = some (.int .u8 ((bs.getD j 0 : Nat) : Int)))

theorem RdB.below {w w' : World} {R p : Nat} {bs : List Nat} (h : RdB w R bs p) (b : Below w.heap.size w w') : RdB w' R bs p := by
  obtain ⟨h0, h7, a, cap, h1, h2, h3, h6⟩ := h
  have lt := World.block_lt_of_cell? w _ h1
  refine ⟨h0, h7, a, cap, (b.cell (p := ⟨R, 0, none⟩) lt).trans h1, (b.cell (p := ⟨R, 1, none⟩) lt).trans h2, (b.frozen (p := ⟨R, 1, none⟩) lt).trans h3, fun hn => ?_⟩
  obtain ⟨g, off, e, hne, hc⟩ := h6 hn
  exact ⟨g, off, e, hne, fun j hj => (b.cell (p := ⟨g, off + j, none⟩) (World.block_lt_of_cell? w _ (hc j hj))).trans (hc j hj)⟩
theorem RdB.drew {w : World} {R p : Nat} {bs : List Nat} (h : RdB w R bs p) : RdB w.drew R bs p := h.below (Below.refl _ _).drew
theorem RdB.drewN {w : World} {R p : Nat} {bs : List Nat} (h : RdB w R bs p) (m : Nat) : RdB (w.drewN m) R bs p := h.below (below_drewN (Below.refl _ _) m)
theorem RdB.alloc {w : World} {R p : Nat} {bs : List Nat} (h : RdB w R bs p) (o : Obj) : RdB (w.alloc o) R bs p := h.below ((Below.refl _ _).alloc (Nat.le_refl _) _)
theorem RdB.lt {w : World} {R p : Nat} {bs : List Nat} (h : RdB w R bs p) : R < w.heap.size := by
  obtain ⟨_, _, a, cap, h1, _⟩ := h
  exact World.block_lt_of_cell? w _ h1

theorem RdB.of_rdr {w : World} {R : Nat} (h : Rdr w R 0) : ∃ bs, RdB w R bs 0 := by
  obtain ⟨a, len, cap, p, h1, h2, h3, h4, h5, h6⟩ := h
  obtain rfl : p = 0 := by omega
  by_cases hl : len = 0
  · subst hl
    exact ⟨[], by simp, by simp, a, cap, h1, h2, h3, fun h => absurd rfl h⟩
  · obtain ⟨g, off, e, hne, hc⟩ := h6 hl
    have hex : ∃ f : Nat → Nat, ∀ j, j < len → f j < 256 ∧ w.cell? ⟨g, off + j, none⟩ = some (.int .u8 (f j)) :=
      ⟨fun j => if hj : j < len then (hc j hj).choose else 0, fun j hj => by simp only [hj, dif_pos]; exact (hc j hj).choose_spec⟩
    obtain ⟨f, hf⟩ := hex
    refine ⟨(List.range len).map f, by simpa using h5, ?_, a, cap, by simpa using h1, h2, h3, fun _ => ⟨g, off, e, hne, fun j hj => ?_⟩⟩
    · intro x hx
      obtain ⟨j, hj, rfl⟩ := List.mem_map.1 hx
      exact (hf j (List.mem_range.1 hj)).1
    · simp only [List.length_map, List.length_range] at hj
      rw [(hf j hj).2]
      simp [List.getD, hj]

theorem RdB.step {w : World} {R p : Nat} {bs : List Nat} (h : RdB w R bs p) : RdB (w.setCell ⟨R, 1, none⟩ (.int .i64 ((p : Int) + 1))) R bs (p + 1) := by
  obtain ⟨h0, h7, a, cap, h1, h2, h3, h6⟩ := h
  refine ⟨h0, h7, a, cap, ?_, ?_, ?_, fun hn => ?_⟩
  · rw [World.cell?_setCell_other _ _ _ _ (by intro e; injection e with _ e2 _; cases e2)]; exact h1
  · rw [World.cell?_setCell_same _ _ _ h2]; simp
  · rw [World.frozen?_setCell]; exact h3
  · obtain ⟨g, off, e, hne, hc⟩ := h6 hn
    refine ⟨g, off, e, hne, fun j hj => ?_⟩
    rw [World.cell?_setCell_other _ _ _ _ (by intro e; injection e with e1 _ _; exact hne e1.symm)]
    exact hc j hj

theorem getD_lt {bs : List Nat} (h : ∀ x ∈ bs, x < 256) (j : Nat) (hj : j < bs.length) : bs.getD j 0 < 256 := by
  apply h; rw [List.getD_eq_getElem?_getD, List.getElem?_eq_getElem hj]; exact List.getElem_mem hj

set_option maxHeartbeats 2000000 in
theorem pick_det (R p : Nat) (bs : List Nat) (n : Int) (hn : 1 ≤ n) (hn2 : n ≤ 1000000000) (hp : p ≤ 1000000000) (w : World) (h : RdB w R bs p) :
    Calls Try.prog 46 #[.pointer (some ⟨R, 0, none⟩), .int .i64 n] w fun e w' => e = .returned (.int .i64 (val bs p n)) ∧ RdB w' R bs (p + 1) ∧ w.grownBy w' (some R) := by
  have hstep := h.step
  obtain ⟨h5, h7, a, cap, h1, h2, h3, h6⟩ := h
  generalize hlen : bs.length = len at *
  by_cases hl : len = 0
  · have hv : val bs p n = 0 := by unfold val; rw [if_pos (by omega)]
    rw [hv]
    subst hl
    clear h6 hv hlen h7
    go_enter Try.func46, Try.ntmps46
    go_wp2_with fail
    go_ret
    exact ⟨rfl, hstep, grownBy_set (World.grownBy.refl _ _) _ _⟩
  · obtain ⟨g, off, rfl, hne, hc⟩ := h6 hl
    clear h6
    have hl0 : ((len : Int) == 0) = false := by simp; omega
    have hl1 : 0 < len := by omega
    by_cases hk : p < len
    · have hv : val bs p n = ((bs.getD p 0 : Nat) : Int) % n := by unfold val; rw [if_neg (by omega), if_pos (by omega)]
      rw [hv]
      have hx := getD_lt h7 p (by omega)
      have hcx := hc p hk
      generalize bs.getD p 0 = x at *
      clear hc hl hv hlen h7
      go_enter Try.func46, Try.ntmps46
      go_wp2_with fail
      go_ret
      exact ⟨rfl, hstep, grownBy_set (World.grownBy.refl _ _) _ _⟩
    · have hv : val bs p n = (((mixed bs p) ^^^ (mixed bs p / 64) : Nat) : Int) % n := by unfold val; rw [if_neg (by omega), if_neg (by omega)]
      rw [hv]
      have hmix : mixed bs p = bs.getD (p % len) 0 * 131 + bs.getD ((p * 7 + 3) % len) 0 * 1117 + p * 29 + p / len * 53 := by unfold mixed; rw [hlen]
      rw [hmix]
      obtain ⟨i1, hi1⟩ : ∃ i, i = p % len := ⟨_, rfl⟩
      obtain ⟨i2, hi2⟩ : ∃ i, i = (p * 7 + 3) % len := ⟨_, rfl⟩
      obtain ⟨q, hq⟩ : ∃ q, q = p / len := ⟨_, rfl⟩
      rw [← hi1, ← hi2, ← hq]
      have l1 : i1 < len := by rw [hi1]; exact Nat.mod_lt _ (by omega)
      have l2 : i2 < len := by rw [hi2]; exact Nat.mod_lt _ (by omega)
      have hqp : q ≤ p := by rw [hq]; exact Nat.div_le_self _ _
      have e1 : (p : Int) % (len : Int) = (i1 : Int) := by rw [hi1]; rfl
      have e1' : (p : Int).tmod (len : Int) = (i1 : Int) := by rw [hi1]; rfl
      have e2 : ((p : Int) * 7 + 3) % (len : Int) = (i2 : Int) := by rw [hi2]; rfl
      have e2' : ((p : Int) * 7 + 3).tmod (len : Int) = (i2 : Int) := by rw [hi2]; rfl
      have e3 : (p : Int) / (len : Int) = (q : Int) := by rw [hq]; rfl
      have e3' : (p : Int).tdiv (len : Int) = (q : Int) := by rw [hq]; rfl
      clear hi1 hi2 hq hv hmix
      have hx := getD_lt h7 i1 (by omega)
      have hy := getD_lt h7 i2 (by omega)
      have hcx := hc i1 l1
      have hcy := hc i2 l2
      generalize bs.getD i1 0 = x at *
      generalize bs.getD i2 0 = y at *
      clear hc h7 hlen hl
      have a1 : IntKind.i64.wrap (p : Int) = p := IntWalk.i64_in _ (by omega)
      have a2 : IntKind.i64.wrap ((p : Int) * 7) = p * 7 := IntWalk.i64_in _ (by omega)
      have a3 : IntKind.i64.wrap ((p : Int) * 7 + 3) = p * 7 + 3 := IntWalk.i64_in _ (by omega)
      have a4 : IntKind.i64.wrap ((x : Int) * 131) = x * 131 := IntWalk.i64_in _ (by omega)
      have a5 : IntKind.i64.wrap ((y : Int) * 1117) = y * 1117 := IntWalk.i64_in _ (by omega)
      have a6 : IntKind.i64.wrap ((x : Int) * 131 + y * 1117) = x * 131 + y * 1117 := IntWalk.i64_in _ (by omega)
      have a7 : IntKind.i64.wrap ((p : Int) * 29) = p * 29 := IntWalk.i64_in _ (by omega)
      have a8 : IntKind.i64.wrap ((x : Int) * 131 + y * 1117 + p * 29) = x * 131 + y * 1117 + p * 29 := IntWalk.i64_in _ (by omega)
      have a9 : IntKind.i64.wrap ((q : Int) * 53) = q * 53 := IntWalk.i64_in _ (by omega)
      obtain ⟨X, hX⟩ : ∃ X : Nat, X = x * 131 + y * 1117 + p * 29 + q * 53 := ⟨_, rfl⟩
      have a10 : IntKind.i64.wrap ((x : Int) * 131 + y * 1117 + p * 29 + q * 53) = (X : Int) := by rw [hX]; exact IntWalk.i64_in _ (by omega)
      rw [← hX]
      have hXb : X < 1000000000000 := by omega
      clear hX
      obtain ⟨Y, hY⟩ : ∃ Y : Nat, Y = X ^^^ X / 64 := ⟨_, rfl⟩
      have b1 : bits .xor .i64 (X : Int) ((X : Int) / 64) = (Y : Int) := by rw [hY]; exact i64_xor_nat X (X / 64) (by omega) (by omega)
      rw [← hY]
      clear hY
      have a11 : IntKind.i64.wrap (x : Int) = x := IntWalk.i64_in _ (by omega)
      have a12 : IntKind.i64.wrap (y : Int) = y := IntWalk.i64_in _ (by omega)
      have a13 : IntKind.i64.wrap (q : Int) = q := IntWalk.i64_in _ (by omega)
      have t2 : (len : Int) ≠ 0 := by omega
      have t3 : len ≠ 0 := by omega
      go_enter Try.func46, Try.ntmps46
      go_wp2_with fail
      go_quiet (fail)
      clear a1 a2 a3 a4 a5 a6 a7 a8 a9 a10 a11 a12 a13 e1 e1' e2 e2' e3 e3'
      go_wp2_with fail
      go_ret
      exact ⟨rfl, hstep.drewN _, grownBy_drewN (grownBy_set (World.grownBy.refl _ _) _ _) _⟩

/-- The same, the place behind it named; for a region that draws its order. -/
theorem pick_at {R : Nat} {bs : List Nat} {n : Int} {w : World} (p q : Nat) (h : RdB w R bs p) (hq : p + 1 = q) (hp : p ≤ 1000000000) (hn : 1 ≤ n) (hn2 : n ≤ 1000000000) :
    Calls Try.prog 46 #[.pointer (some ⟨R, 0, none⟩), .int .i64 n] w fun e w' => e = .returned (.int .i64 (val bs p n)) ∧ RdB w' R bs q ∧ w.grownBy w' (some R) := by
  subst hq; exact pick_det R p bs n hn hn2 hp w h
theorem rdAsk {R : Nat} {bs : List Nat} {n v : Int} (p : Nat) (e : v = val bs p n) (hp : p ≤ 1000000000) (hn : 1 ≤ n) (hn2 : n ≤ 1000000000) :
    Hid (∀ w : World, RdB w R bs p → Calls Try.prog 46 #[.pointer (some ⟨R, 0, none⟩), .int .i64 n] w fun e w' => e = .returned (.int .i64 v) ∧ RdB w' R bs (p + 1) ∧ w.grownBy w' (some R) ∧
      (∀ b o, b < w.heap.size → b ≠ R → w'.cell? ⟨b, o, none⟩ = w.cell? ⟨b, o, none⟩) ∧ (∀ b, b < w.heap.size → b < w'.heap.size) ∧ w'.heap.size ≠ R) :=
  fun w h => by
    rw [e]
    refine (pick_det R p bs n hn hn2 hp w h).mono ?_
    rintro e w' ⟨h1, h2, h3⟩
    refine ⟨h1, h2, h3, fun b o hb hne => World.cell?_of_block (a := ⟨b, o, none⟩) (h3.block b hb (by simpa using hne)), fun b hb => Nat.lt_of_lt_of_le hb h3.size, ?_⟩
    have := h2.lt
    omega

end Go.Proofs.Ytbijpkphbepacaa
