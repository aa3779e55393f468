/- Slices of guesses compared and marked; the law FnExactGuessesOk. -/
import Derived.Test.YtkkjgcpkimjfkaaProg
import Derived.Test.YtkkjgcpkimjfkaaGs4
namespace Go.Proofs.Ytkkjgcpkimjfkaa
open Go.RowKit

set_option maxHeartbeats 1000000 in
theorem eqGuess_yes (u v : Value) (g : Gs) (W : World) (hu : Rd W u g.code) (hv : Rd W v g.code) :
    Calls Try.prog 52 #[.agg #[u, .int .i64 g.right, .int .i64 g.near], .agg #[v, .int .i64 g.right, .int .i64 g.near]] W fun e w' => e = .returned (.bool true) ∧ Below W.heap.size W w' := by
  obtain ⟨code, r, n⟩ := g
  simp only at hu hv ⊢
  obtain ⟨W2, hW2⟩ : ∃ W2, W2 = (W.alloc (.cells #[u, .int .i64 r, .int .i64 n] 55)).alloc (.cells #[v, .int .i64 r, .int .i64 n] 55) := ⟨_, rfl⟩
  have hs2 : W2.heap.size = W.heap.size + 1 + 1 := by rw [hW2]; simp
  have hb2 : Below W.heap.size W W2 := by rw [hW2]; exact ((Below.refl _ _).alloc (Nat.le_refl _) _).alloc (by simp) _
  have b1 : Below (W.heap.size + 1) (W.alloc (.cells #[u, .int .i64 r, .int .i64 n] 55)) W2 := by rw [hW2]; exact (Below.refl _ _).alloc (by simp) _
  have p0 : W2.cell? ⟨W.heap.size, 0, none⟩ = some u := (b1.cell (p := ⟨W.heap.size, 0, none⟩) (by simp)).trans ((World.cell?_alloc_at _ _ _ _ rfl).trans rfl)
  have p1 : W2.cell? ⟨W.heap.size, 1, none⟩ = some (.int .i64 r) := (b1.cell (p := ⟨W.heap.size, 1, none⟩) (by simp)).trans ((World.cell?_alloc_at _ _ _ _ rfl).trans rfl)
  have p2 : W2.cell? ⟨W.heap.size, 2, none⟩ = some (.int .i64 n) := (b1.cell (p := ⟨W.heap.size, 2, none⟩) (by simp)).trans ((World.cell?_alloc_at _ _ _ _ rfl).trans rfl)
  have q0 : W2.cell? ⟨W.heap.size + 1, 0, none⟩ = some v := by rw [hW2]; exact (World.cell?_alloc_at _ _ _ _ (by simp)).trans rfl
  have q1 : W2.cell? ⟨W.heap.size + 1, 1, none⟩ = some (.int .i64 r) := by rw [hW2]; exact (World.cell?_alloc_at _ _ _ _ (by simp)).trans rfl
  have q2 : W2.cell? ⟨W.heap.size + 1, 2, none⟩ = some (.int .i64 n) := by rw [hW2]; exact (World.cell?_alloc_at _ _ _ _ (by simp)).trans rfl
  have k := Lib.hid (eqIntS_yes u v code W2 (hu.below hb2) (hv.below hb2))
  have HB2 := Lib.hid hb2
  have hx1 : W.heap.size < W2.heap.size := by omega
  have hx2 : W.heap.size + 1 < W2.heap.size := by omega
  have HX1 := Lib.hid hx1
  have HX2 := Lib.hid hx2
  obtain ⟨x, cx, rfl, _, _⟩ := hu
  obtain ⟨y, cy, rfl, _, _⟩ := hv
  generalize code.length = lk at *
  clear b1 hs2 hb2 hx1 hx2
  go_enter Try.func52, Try.ntmps52
  go_wp2_with fail
  rw [← hW2]
  go_wp2_with fail
  refine k.out.mono ?_
  rintro e w1 ⟨rfl, hb1⟩
  have P1 := (hb1.cell (p := ⟨W.heap.size, 1, none⟩) HX1.out).trans p1
  have P2 := (hb1.cell (p := ⟨W.heap.size, 2, none⟩) HX1.out).trans p2
  have Q1 := (hb1.cell (p := ⟨W.heap.size + 1, 1, none⟩) HX2.out).trans q1
  have Q2 := (hb1.cell (p := ⟨W.heap.size + 1, 2, none⟩) HX2.out).trans q2
  have HB := Lib.hid (HB2.out.trans (hb1.mono HB2.out.size))
  clear hb1 p0 p1 p2 q0 q1 q2 hW2
  go_wp2_with fail
  go_ret
  exact ⟨rfl, HB.out⟩

set_option maxHeartbeats 1000000 in
theorem eqGuessS_yes (va vb : Value) (gs : List Gs) (w : World) (ha : RdG w va gs) (hb : RdG w vb gs) :
    Calls Try.prog 28 #[va, vb] w fun e w' => e = .returned (.bool true) ∧ Below w.heap.size w w' := by
  obtain ⟨a, ca, rfl, hm, ha⟩ := ha
  obtain ⟨b, cb, rfl, _, hb⟩ := hb
  unfold maxLen at hm
  have HA := Lib.hid ha
  have HB := Lib.hid hb
  clear ha hb
  go_enter Try.func28, Try.ntmps28
  go_wp2_with fail
  go_loopw [5] (fun v wr => ∃ k : Nat, k ≤ gs.length ∧ v = .int .i64 k ∧ Below w.heap.size w wr) (fun v _ => gs.length - (intOf v).toNat)
  case atStart => exact ⟨0, by omega, rfl, Below.refl _ _⟩
  case round =>
    obtain ⟨k, hk, rfl, hbel⟩ := hrel
    by_cases hlt : k < gs.length
    · have hne : gs ≠ [] := by intro e; rw [e] at hlt; simp at hlt
      obtain ⟨g, off, rfl, hc⟩ := HA.out hne
      obtain ⟨g', off', rfl, hc'⟩ := HB.out hne
      obtain ⟨u, h1, hu, h2, h3⟩ := hc k hlt
      obtain ⟨u', h1', hu', h2', h3'⟩ := hc' k hlt
      have hg := World.block_lt_of_cell? w _ h1
      have hg' := World.block_lt_of_cell? w _ h1'
      have c1 := (hbel.cell (p := ⟨g, off + k * 3, none⟩) hg).trans h1
      have c2 := (hbel.cell (p := ⟨g, off + k * 3 + 1, none⟩) hg).trans h2
      have c3 := (hbel.cell (p := ⟨g, off + k * 3 + 2, none⟩) hg).trans h3
      have d1 := (hbel.cell (p := ⟨g', off' + k * 3, none⟩) hg').trans h1'
      have d2 := (hbel.cell (p := ⟨g', off' + k * 3 + 1, none⟩) hg').trans h2'
      have d3 := (hbel.cell (p := ⟨g', off' + k * 3 + 2, none⟩) hg').trans h3'
      have K := Lib.hid (eqGuess_yes u u' (gs.getD k gNil) wr.drew ((hu.below hbel).below (Below.refl _ _).drew) ((hu'.below hbel).below (Below.refl _ _).drew))
      obtain ⟨x, cx, rfl, _, _⟩ := hu
      obtain ⟨y, cy, rfl, _, _⟩ := hu'
      have HBL := Lib.hid hbel
      generalize (gs.getD k gNil).code.length = lk at *
      generalize (gs.getD k gNil).right = r at *
      generalize (gs.getD k gNil).near = q at *
      clear h1 h2 h3 h1' h2' h3' hc hc' hne hbel hg hg'
      have hi0 : (0 : Int) ≤ (k : Int) := by omega
      have hi1 : (k : Int) < (gs.length : Int) := by omega
      go_wp2_with fail
      refine wp_region_still_tail 8 (by kernel_rfl) (by kernel_rfl) ?_
      simp only [List.take_succ_cons, List.take_zero, List.drop_succ_cons, List.drop_zero]
      change wpStill _ _ (World.drew _) _ _ _
      repeat still_step
      refine wpStill_nil ?_
      change wpList _ _ _ _ _ (World.drew _)
      go_wp2_with fail
      refine K.out.mono ?_
      rintro e w1 ⟨rfl, hb1⟩
      have HB1 := Lib.hid hb1
      clear hb1 K
      go_wp2_with fail
      go_roundw
      case rel => exact ⟨k + 1, by omega, by go_num, HBL.out.trans ((Below.refl _ _).drew.trans (HB1.out.mono HBL.out.size))⟩
      case measure => simp [intOf]; omega
    · clear HA HB
      go_wp2_with fail
      go_ret
      exact ⟨rfl, hbel⟩
end Go.Proofs.Ytkkjgcpkimjfkaa
