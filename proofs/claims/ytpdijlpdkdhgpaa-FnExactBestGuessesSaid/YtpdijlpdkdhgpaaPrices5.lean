/- A run is settled. -/
import Derived.Test.YtpdijlpdkdhgpaaProg
import Derived.Test.YtpdijlpdkdhgpaaPrices0
import Derived.Test.YtpdijlpdkdhgpaaPrices4
import Derived.Test.YtpdijlpdkdhgpaaPrices3
import Derived.StillTailTactics
import Derived.BigQuiet
namespace Go.Proofs.Ytpdijlpdkdhgpaa
open Go.RowKit

/-- nothing that was there has changed but the blocks A and B -/
structure Kept2 (w w' : World) (A B : Nat) : Prop where
  os : w'.os = w.os
  tape : w'.tape = w.tape
  output : w'.output = w.output
  size : w.heap.size ≤ w'.heap.size
  block : ∀ k, k < w.heap.size → k ≠ A → k ≠ B → w'.heap[k]? = w.heap[k]?
theorem Kept2.refl (w : World) (A B : Nat) : Kept2 w w A B := ⟨rfl, rfl, rfl, Nat.le_refl _, fun _ _ _ _ => rfl⟩
theorem Kept2.trans {w w1 w2 : World} {A B : Nat} (h : Kept2 w w1 A B) (g : Kept2 w1 w2 A B) : Kept2 w w2 A B :=
  ⟨g.os.trans h.os, g.tape.trans h.tape, g.output.trans h.output, Nat.le_trans h.size g.size, fun k hk h1 h2 => (g.block k (Nat.lt_of_lt_of_le hk h.size) h1 h2).trans (h.block k hk h1 h2)⟩
theorem Kept2.of_left {w w' : World} {A B : Nat} (h : w.grownBy w' (some A)) : Kept2 w w' A B :=
  ⟨h.os, h.tape, h.output, h.size, fun k hk h1 _ => h.block k hk (by intro e; injection e with e; exact h1 e)⟩
theorem Kept2.of_right {w w' : World} {A B : Nat} (h : w.grownBy w' (some B)) : Kept2 w w' A B :=
  ⟨h.os, h.tape, h.output, h.size, fun k hk _ h2 => h.block k hk (by intro e; injection e with e; exact h2 e)⟩
theorem Kept2.of_below {w w' : World} {A B : Nat} (h : Below w.heap.size w w') : Kept2 w w' A B :=
  ⟨h.os, h.tape, h.output, h.size, fun k hk _ _ => h.block k hk⟩
theorem Kept2.cell {w w' : World} {A B : Nat} (h : Kept2 w w' A B) {p : Addr} {v : Value} (hc : w.cell? p = some v) (h1 : p.block ≠ A) (h2 : p.block ≠ B) : w'.cell? p = some v :=
  (World.cell?_of_block (h.block p.block (World.block_lt_of_cell? w _ hc) h1 h2)).trans hc

/-- the plans lie in the block Bp -/
structure Plans (w : World) (Bp : Nat) (va : Value) (BN BF : Nat) : Prop where
  c0 : w.cell? ⟨Bp, 0, none⟩ = some va
  c1 : w.cell? ⟨Bp, 1, none⟩ = some (.map (some BN))
  c2 : w.cell? ⟨Bp, 2, none⟩ = some (.map (some BF))
  nN : Bp ≠ BN
  nF : Bp ≠ BF
theorem Plans.kept {w w' : World} {Bp BN BF : Nat} {va : Value} (h : Plans w Bp va BN BF) (k : Kept2 w w' BN BF) : Plans w' Bp va BN BF :=
  ⟨k.cell h.c0 h.nN h.nF, k.cell h.c1 h.nN h.nF, k.cell h.c2 h.nN h.nF, h.nN, h.nF⟩

abbrev RM (w : World) (B m : Nat) (f : Nat × Nat → Option Value) : Prop := MapAt Try.prog 43 kv w B m f
def put2 (f : Nat × Nat → Option Value) (i : Nat × Nat) (v : Value) : Nat × Nat → Option Value := fun j => if j = i then some v else f j

theorem RM.put {w : World} {B m : Nat} {f : Nat × Nat → Option Value} (h : RM w B m f) (hm : m ≤ 100000) (a b : Nat) (ha : a ≤ 1000) (hb : b ≤ 1000) (v : Int) :
    ∃ w' m', (Instr.mapUpdate 37 (.map (some B)) (.agg #[.int .i64 a, .int .i64 b]) (.int .i64 v)).run Try.prog w = .ok () w' ∧ RM w' B m' (put2 f (a, b) (.int .i64 v)) ∧ m' ≤ m + 1 ∧ ((f (a, b)).isSome = true → m' = m) ∧ w.grownBy w' (some B) := by
  obtain ⟨l, hl⟩ := kv_key a b ha hb
  obtain ⟨w', h1, h2, h3⟩ := MapAt.store h YtpdijlpdkdhgpaakeyRun Try.underlying37 (by unfold maxLen; omega) kv_inj (a, b) (.int .i64 v) hl
  refine ⟨w', _, h1, h2, ?_, ?_, h3⟩
  · split <;> omega
  · intro e; rw [if_pos e]
theorem RM.get {w : World} {B m : Nat} {f : Nat × Nat → Option Value} (h : RM w B m f) (a b : Nat) (ha : a ≤ 1000) (hb : b ≤ 1000) {v : Value} (hv : (f (a, b)).getD (.int .i64 0) = v) :
    (Instr.lookup 37 (.map (some B)) (.agg #[.int .i64 a, .int .i64 b]) false).run Try.prog w = .ok v w := by
  obtain ⟨l, hl⟩ := kv_key a b ha hb
  have := MapAt.look h YtpdijlpdkdhgpaakeyRun Try.underlying37 (z := .int .i64 0) (by kernel_rfl) (a, b) hl
  rw [hv] at this
  exact this

theorem put2_twice (g : Nat × Nat → Option Value) (i : Nat × Nat) (u v : Value) (j : Nat × Nat) : put2 (put2 g i u) i v j = put2 g i v j := by
  unfold put2
  by_cases e : j = i
  · rw [if_pos e, if_pos e]
  · rw [if_neg e, if_neg e, if_neg e]

def SePost (xs : List Int) (f g : Nat × Nat → Option Value) (a b BN BF mN mF : Nat) (w : World) (e : Ending) (w' : World) : Prop :=
  e = .returned (.tuple #[]) ∧ Kept2 w w' BN BF ∧
    (∃ m', m' ≤ mN + 1 ∧ RM w' BN m' (if b ≤ a + 1 then f else put2 f (a, b) (.int .i64 (Cx xs a b)))) ∧ ∃ m', m' ≤ mF + 1 ∧ RM w' BF m' (put2 g (a, b) (.int .i64 (Fx xs a b)))

set_option maxHeartbeats 4000000 in
theorem settle_any (xs : List Int) (n a b : Nat) (va : Value) (Bp BN BF mN mF : Nat) (f g : Nat × Nat → Option Value) (w : World) (hn : xs.length = n) (hn9 : n ≤ 9) (hab : a < b) (hbn : b ≤ n) (hx : ∀ j, 0 ≤ xs.getD j 0 ∧ xs.getD j 0 ≤ 50)
    (hp : Plans w Bp va BN BF) (hr : Rd w va xs) (hN : RM w BN mN f) (hF : RM w BF mF g) (hne : BN ≠ BF) (hmN : mN ≤ 90000) (hmF : mF ≤ 90000)
    (hf : ∀ i j, a ≤ i → i ≤ j → j ≤ b → j - i < b - a → (f (i, j)).getD (.int .i64 0) = .int .i64 (Cx xs i j)) :
    Calls Try.prog 37 #[.pointer (some ⟨Bp, 0, none⟩), .agg #[.int .i64 a, .int .i64 b]] w (SePost xs f g a b BN BF mN mF w) := by
  obtain ⟨ao, ca, rfl, _, hrc⟩ := hr
  obtain ⟨gx, ox, rfl, hcx⟩ := hrc (by intro e; rw [e] at hn; simp at hn; omega)
  have hgN : gx ≠ BN := by
    rintro rfl
    have := hcx 0 (by omega)
    rw [hN.no_cell] at this
    cases this
  have hgF : gx ≠ BF := by
    rintro rfl
    have := hcx 0 (by omega)
    rw [hF.no_cell] at this
    cases this
  rw [hn] at hcx hp
  have hal : Below w.heap.size w (w.alloc (.cells #[.int .i64 a, .int .i64 b] 43)) := (Below.refl _ _).alloc (Nat.le_refl _) _
  have hk0 : Kept2 w (w.alloc (.cells #[.int .i64 a, .int .i64 b] 43)).drew BN BF := Kept2.of_below hal.drew
  have hp0 := hp.kept hk0
  have hN0 : RM (w.alloc (.cells #[.int .i64 a, .int .i64 b] 43)).drew BN mN f := hN.kept (grownBy_any none hal.drew) (by simp)
  have hF0 : RM (w.alloc (.cells #[.int .i64 a, .int .i64 b] 43)).drew BF mF g := hF.kept (grownBy_any none hal.drew) (by simp)
  obtain ⟨w1, mF1, hrun, hF1, hmF1, _, hg1⟩ := hF0.put (by omega) a b (by omega) (by omega) a
  have hp1 := hp.c1
  have hp2 := hp.c2
  have hp3 := hp.c0
  have hBF : BF < w.heap.size := hF.lt
  have hBN : BN < w.heap.size := hN.lt
  have hBp : Bp < w.heap.size := World.block_lt_of_cell? w _ hp1
  have hq0 : w1.cell? ⟨w.heap.size, 0, none⟩ = some (.int .i64 a) := hg1.cell (a := ⟨w.heap.size, 0, none⟩) (by simp) (by simp; omega)
  have hq1 : w1.cell? ⟨w.heap.size, 1, none⟩ = some (.int .i64 b) := hg1.cell (a := ⟨w.heap.size, 1, none⟩) (by simp) (by simp; omega)
  have HK1 := Lib.hid (hk0.trans (Kept2.of_right (A := BN) hg1))
  have HN1 := Lib.hid (hN0.kept hg1 (by intro e; injection e with e; exact hne e))
  have HF1 := Lib.hid hF1
  have HP1 := Lib.hid (hp0.kept (Kept2.of_right (A := BN) hg1))
  have HR := Lib.hid hcx
  have HF := Lib.hid hf
  have hz1 : w.heap.size < w1.heap.size := Nat.lt_of_lt_of_le (by simp) hg1.size
  clear hal hk0 hp0 hN0 hF0 hg1 hF1 hp hrc hcx hN hF hf
  go_enter Try.func37, Try.ntmps37
  go_wp2_with fail
  refine wp_region_still_tail 7 (by kernel_rfl) (by kernel_rfl) ?_
  simp only [List.take_succ_cons, List.take_zero, List.drop_succ_cons, List.drop_zero]
  change wpStill _ _ (World.drew _) _ _ _
  repeat still_step
  refine wpStill_nil ?_
  change wpList _ _ _ _ _ (World.drew _)
  by_cases hc : b = a + 1
  · have hone : ((b : Int) - (a : Int) == 1) = true := by rw [beq_iff_eq]; omega
    have HC := Lib.hid hc
    clear hc
    go_wp2_with fail
    (try simp only [Exit.inBlock, Exit.then])
    refine bodyPost_ret (results_none rfl _ _ _) rfl ?_
    refine ⟨rfl, HK1.out, ⟨mN, by omega, ?_⟩, mF1, hmF1, ?_⟩
    · rw [if_pos (by rw [HC.out]; exact Nat.le_refl _)]; exact HN1.out
    · rw [show Fx xs a b = a from if_pos (by rw [HC.out]; exact Nat.le_refl _)]; exact HF1.out
  · have hone : ((b : Int) - (a : Int) == 1) = false := by rw [beq_eq_false_iff_ne]; omega
    have hab2 : a + 2 ≤ b := by omega
    go_wp2_with fail
    go_loopw [4, 5] (fun vb vg wr => ∃ k m' : Nat, k ≤ b - a ∧ vb = .int .i64 (scn xs (Cx xs) a b k).1 ∧ vg = .int .i64 ((a + k : Nat) : Int) ∧ m' ≤ mF + 1 ∧ RM wr BF m' (put2 g (a, b) (.int .i64 ((scn xs (Cx xs) a b k).2 : Nat))) ∧ RM wr BN mN f ∧ Kept2 w1 wr BN BF) (fun _ vg _ => b - (intOf vg).toNat)
    case atStart => exact ⟨0, mF1, by omega, rfl, rfl, hmF1, HF1.out, HN1.out, Kept2.refl _ _ _⟩
    case round =>
      obtain ⟨k, m', hk, rfl, rfl, hm', hrF, hrN, hkr⟩ := hrel
      have hq0' : wr.cell? ⟨w.heap.size, 0, none⟩ = some (.int .i64 a) := hkr.cell hq0 (show w.heap.size ≠ BN by omega) (show w.heap.size ≠ BF by omega)
      have hq1' : wr.cell? ⟨w.heap.size, 1, none⟩ = some (.int .i64 b) := hkr.cell hq1 (show w.heap.size ≠ BN by omega) (show w.heap.size ≠ BF by omega)
      obtain ⟨pc0, pc1, pc2, _, _⟩ := HP1.out.kept hkr
      have hsb := scn_bd (xs := xs) (c := Cx xs) (a := a) (b := b) (M := 500) hx (fun i j => (Cx_bd hx (j - i) i j (Nat.le_refl _)).1) (fun i j _ _ hij => by have := (Cx_bd hx (j - i) i j (Nat.le_refl _)).2; omega) k hk
      have hs1 : -1 ≤ (scn xs (Cx xs) a b k).1 ∧ (scn xs (Cx xs) a b k).1 ≤ 550 := by
        rcases hsb with ⟨_, h⟩ | h
        · rw [h]; simp
        · omega
      have hs2 : (scn xs (Cx xs) a b k).2 ≤ 1000 := by
        rcases hsb with ⟨_, h⟩ | h
        · rw [h]; show a ≤ 1000; omega
        · omega
      clear hsb
      by_cases hlt : k < b - a
      · obtain ⟨q, hq⟩ : ∃ q, q = a + k := ⟨_, rfl⟩
        have hcq : wr.cell? ⟨gx, ox + q, none⟩ = some (.int .i64 (xs.getD q 0)) := (HK1.out.trans hkr).cell (HR.out q (by omega)) hgN hgF
        have hnM : ∀ m, RM (wr.drewN m) BN mN f := fun m => hrN.kept (grownBy_any none (below_drewN (Below.refl _ _) m)) (by simp)
        have hl1' : ∀ m, (Instr.lookup 37 (.map (some BN)) (.agg #[.int .i64 a, .int .i64 q]) false).run Try.prog (wr.drewN m) = .ok (.int .i64 (Cx xs a q)) (wr.drewN m) := fun m => (hnM m).get a q (by omega) (by omega) (HF.out a q (by omega) (by omega) (by omega) (by omega))
        have hl2' : ∀ m, (Instr.lookup 37 (.map (some BN)) (.agg #[.int .i64 ((q : Int) + 1), .int .i64 b]) false).run Try.prog (wr.drewN m) = .ok (.int .i64 (Cx xs (q + 1) b)) (wr.drewN m) := fun m => (hnM m).get (q + 1) b (by omega) (by omega) (HF.out (q + 1) b (by omega) (by omega) (by omega) (by omega))
        clear hnM
        have hstep : scn xs (Cx xs) a b (k + 1) = if (scn xs (Cx xs) a b k).1 < 0 ∨ xs.getD q 0 + max (Cx xs a q) (Cx xs (q + 1) b) < (scn xs (Cx xs) a b k).1 then (xs.getD q 0 + max (Cx xs a q) (Cx xs (q + 1) b), q) else scn xs (Cx xs) a b k := by rw [scn, ← hq]
        have hx1 := hx q
        have hx2 := Cx_bd hx (q - a) a q (Nat.le_refl _)
        have hx3 := Cx_bd hx (b - (q + 1)) (q + 1) b (Nat.le_refl _)
        have hx4 : Cx xs a q ≤ 1000 := by omega
        have hx5 : Cx xs (q + 1) b ≤ 1000 := by omega
        have HKR := Lib.hid hkr
        have HRF := Lib.hid hrF
        have HRN := Lib.hid hrN
        have HST := Lib.hid hstep
        obtain ⟨s, hs⟩ : ∃ s, s = scn xs (Cx xs) a b k := ⟨_, rfl⟩
        rw [← hs] at hs1 hs2 HST HRF ⊢
        obtain ⟨c1, hc1⟩ : ∃ c, c = Cx xs a q := ⟨_, rfl⟩
        obtain ⟨c2, hc2⟩ : ∃ c, c = Cx xs (q + 1) b := ⟨_, rfl⟩
        obtain ⟨x, hx0⟩ : ∃ x, x = xs.getD q 0 := ⟨_, rfl⟩
        rw [← hc1] at hl1' hx2 hx4 HST
        rw [← hc2] at hl2' hx3 hx5 HST
        rw [← hx0] at hcq hx1 HST
        obtain ⟨s1, s2⟩ := s
        simp only at hs1 hs2 HST HRF ⊢
        rw [← hq]
        have hqq : (a : Int) + (k : Int) = (q : Int) := by omega
        have HQ := Lib.hid hq
        have hqi0 : (0 : Int) ≤ (q : Int) := by omega
        have hqi1 : (q : Int) < (n : Int) := by omega
        have hqb : (q : Int) < (b : Int) := by omega
        obtain ⟨c, hcm, hcc⟩ : ∃ c, max c1 c2 = c ∧ ((c2 < c1 ∧ c = c1) ∨ (c1 < c2 ∧ c = c2) ∨ (c1 = c2 ∧ c = c1)) := ⟨_, rfl, by omega⟩
        rw [hcm] at HST
        have hcb : 0 ≤ c ∧ c ≤ 1000 := by omega
        clear hq hrF hrN hkr hstep hs hc1 hc2 hx0 hcm hx2 hx3
        have HQ1 : Hid ((s1 < 0 ∨ x + c < s1) → scn xs (Cx xs) a b (k + 1) = (x + c, q)) := fun h => by rw [HST.out, if_pos h]
        have HQ2 : Hid (¬ (s1 < 0 ∨ x + c < s1) → scn xs (Cx xs) a b (k + 1) = (s1, s2)) := fun h => by rw [HST.out, if_neg h]
        rcases hcc with ⟨hcc, rfl⟩ | ⟨hcc, rfl⟩ | ⟨rfl, rfl⟩
        · go_wp2_with fail
          go_quiet (fail)
          generalize hw0 : wr.drewN _ = w3
          have hb3 : Below wr.heap.size wr w3 := by rw [← hw0]; exact below_drewN (Below.refl _ _) _
          have HB3 := Lib.hid hb3
          have HN3 := Lib.hid (HRN.out.kept (grownBy_any none hb3) (by simp))
          have HF3 := Lib.hid (HRF.out.kept (grownBy_any none hb3) (by simp))
          have hk3 := HKR.out.trans (Kept2.of_below (A := BN) (B := BF) hb3)
          have HK3 := Lib.hid hk3
          have hp3 := (HP1.out.kept hk3).c2
          have hq03 : w3.cell? ⟨w.heap.size, 0, none⟩ = some (.int .i64 a) := hk3.cell hq0 (show w.heap.size ≠ BN by omega) (show w.heap.size ≠ BF by omega)
          have hq13 : w3.cell? ⟨w.heap.size, 1, none⟩ = some (.int .i64 b) := hk3.cell hq1 (show w.heap.size ≠ BN by omega) (show w.heap.size ≠ BF by omega)
          clear hw0 hb3 hk3 hcq hq0' hq1' pc0 pc1 pc2 hl1' hl2'
          by_cases hup : s1 < 0 ∨ x + c < s1
          · obtain ⟨w4, mF4, hrun4, hF4, _, hmF4, hg4⟩ := (show RM w3.drew BF m' _ from HF3.out).put (by omega) a b (by omega) (by omega) (q : Int)
            have hmm : mF4 = m' := hmF4 (by unfold put2; rw [if_pos rfl]; rfl)
            have HF4 := Lib.hid hF4
            have HN4 := Lib.hid ((show RM w3.drew BN mN f from HN3.out).kept hg4 (by intro e; injection e with e; exact hne e))
            have HK4 := Lib.hid (HK3.out.trans ((Kept2.of_below (Below.refl w3.heap.size w3).drew).trans (Kept2.of_right (A := BN) hg4)))
            have HUP := Lib.hid (HQ1.out hup)
            clear hF4 hmF4 hg4
            by_cases h0 : s1 < 0
            · clear hup
              go_wp2_with fail
              refine wp_region_still_tail 6 (by kernel_rfl) (by kernel_rfl) ?_
              simp only [List.take_succ_cons, List.take_zero, List.drop_succ_cons, List.drop_zero]
              change wpStill _ _ (World.drew _) _ _ _
              repeat still_step
              refine wpStill_nil ?_
              change wpList _ _ _ _ _ (World.drew _)
              go_wp2_with fail
              go_roundw
              case rel =>
                refine ⟨k + 1, m', by omega, by rw [HUP.out], ?_, hm', ?_, HN4.out, HK4.out⟩
                · rw [show a + (k + 1) = q + 1 by have := HQ.out; omega]; rfl
                · rw [HUP.out, ← hmm]; exact HF4.out.congr (put2_twice _ _ _ _)
              case measure => simp [intOf]; omega
            · have h1 : x + c < s1 := by omega
              clear hup
              go_wp2_with fail
              refine wp_region_still_tail 6 (by kernel_rfl) (by kernel_rfl) ?_
              simp only [List.take_succ_cons, List.take_zero, List.drop_succ_cons, List.drop_zero]
              change wpStill _ _ (World.drew _) _ _ _
              repeat still_step
              refine wpStill_nil ?_
              change wpList _ _ _ _ _ (World.drew _)
              go_wp2_with fail
              go_roundw
              case rel =>
                refine ⟨k + 1, m', by omega, by rw [HUP.out], ?_, hm', ?_, HN4.out, HK4.out⟩
                · rw [show a + (k + 1) = q + 1 by have := HQ.out; omega]; rfl
                · rw [HUP.out, ← hmm]; exact HF4.out.congr (put2_twice _ _ _ _)
              case measure => simp [intOf]; omega
          · have HUP := Lib.hid (HQ2.out hup)
            have h0 : ¬ s1 < 0 := by omega
            have h1 : ¬ x + c < s1 := by omega
            clear hup
            go_wp2_with fail
            go_roundw
            case rel =>
              refine ⟨k + 1, m', by omega, by rw [HUP.out], ?_, hm', ?_, HN3.out, HK3.out⟩
              · rw [show a + (k + 1) = q + 1 by have := HQ.out; omega]; rfl
              · rw [HUP.out]; exact HF3.out
            case measure => simp [intOf]; omega
        · go_wp2_with fail
          go_quiet (fail)
          generalize hw0 : wr.drewN _ = w3
          have hb3 : Below wr.heap.size wr w3 := by rw [← hw0]; exact below_drewN (Below.refl _ _) _
          have HB3 := Lib.hid hb3
          have HN3 := Lib.hid (HRN.out.kept (grownBy_any none hb3) (by simp))
          have HF3 := Lib.hid (HRF.out.kept (grownBy_any none hb3) (by simp))
          have hk3 := HKR.out.trans (Kept2.of_below (A := BN) (B := BF) hb3)
          have HK3 := Lib.hid hk3
          have hp3 := (HP1.out.kept hk3).c2
          have hq03 : w3.cell? ⟨w.heap.size, 0, none⟩ = some (.int .i64 a) := hk3.cell hq0 (show w.heap.size ≠ BN by omega) (show w.heap.size ≠ BF by omega)
          have hq13 : w3.cell? ⟨w.heap.size, 1, none⟩ = some (.int .i64 b) := hk3.cell hq1 (show w.heap.size ≠ BN by omega) (show w.heap.size ≠ BF by omega)
          clear hw0 hb3 hk3 hcq hq0' hq1' pc0 pc1 pc2 hl1' hl2'
          by_cases hup : s1 < 0 ∨ x + c < s1
          · obtain ⟨w4, mF4, hrun4, hF4, _, hmF4, hg4⟩ := (show RM w3.drew BF m' _ from HF3.out).put (by omega) a b (by omega) (by omega) (q : Int)
            have hmm : mF4 = m' := hmF4 (by unfold put2; rw [if_pos rfl]; rfl)
            have HF4 := Lib.hid hF4
            have HN4 := Lib.hid ((show RM w3.drew BN mN f from HN3.out).kept hg4 (by intro e; injection e with e; exact hne e))
            have HK4 := Lib.hid (HK3.out.trans ((Kept2.of_below (Below.refl w3.heap.size w3).drew).trans (Kept2.of_right (A := BN) hg4)))
            have HUP := Lib.hid (HQ1.out hup)
            clear hF4 hmF4 hg4
            by_cases h0 : s1 < 0
            · clear hup
              go_wp2_with fail
              refine wp_region_still_tail 6 (by kernel_rfl) (by kernel_rfl) ?_
              simp only [List.take_succ_cons, List.take_zero, List.drop_succ_cons, List.drop_zero]
              change wpStill _ _ (World.drew _) _ _ _
              repeat still_step
              refine wpStill_nil ?_
              change wpList _ _ _ _ _ (World.drew _)
              go_wp2_with fail
              go_roundw
              case rel =>
                refine ⟨k + 1, m', by omega, by rw [HUP.out], ?_, hm', ?_, HN4.out, HK4.out⟩
                · rw [show a + (k + 1) = q + 1 by have := HQ.out; omega]; rfl
                · rw [HUP.out, ← hmm]; exact HF4.out.congr (put2_twice _ _ _ _)
              case measure => simp [intOf]; omega
            · have h1 : x + c < s1 := by omega
              clear hup
              go_wp2_with fail
              refine wp_region_still_tail 6 (by kernel_rfl) (by kernel_rfl) ?_
              simp only [List.take_succ_cons, List.take_zero, List.drop_succ_cons, List.drop_zero]
              change wpStill _ _ (World.drew _) _ _ _
              repeat still_step
              refine wpStill_nil ?_
              change wpList _ _ _ _ _ (World.drew _)
              go_wp2_with fail
              go_roundw
              case rel =>
                refine ⟨k + 1, m', by omega, by rw [HUP.out], ?_, hm', ?_, HN4.out, HK4.out⟩
                · rw [show a + (k + 1) = q + 1 by have := HQ.out; omega]; rfl
                · rw [HUP.out, ← hmm]; exact HF4.out.congr (put2_twice _ _ _ _)
              case measure => simp [intOf]; omega
          · have HUP := Lib.hid (HQ2.out hup)
            have h0 : ¬ s1 < 0 := by omega
            have h1 : ¬ x + c < s1 := by omega
            clear hup
            go_wp2_with fail
            go_roundw
            case rel =>
              refine ⟨k + 1, m', by omega, by rw [HUP.out], ?_, hm', ?_, HN3.out, HK3.out⟩
              · rw [show a + (k + 1) = q + 1 by have := HQ.out; omega]; rfl
              · rw [HUP.out]; exact HF3.out
            case measure => simp [intOf]; omega
        · go_wp2_with fail
          go_quiet (fail)
          generalize hw0 : wr.drewN _ = w3
          have hb3 : Below wr.heap.size wr w3 := by rw [← hw0]; exact below_drewN (Below.refl _ _) _
          have HB3 := Lib.hid hb3
          have HN3 := Lib.hid (HRN.out.kept (grownBy_any none hb3) (by simp))
          have HF3 := Lib.hid (HRF.out.kept (grownBy_any none hb3) (by simp))
          have hk3 := HKR.out.trans (Kept2.of_below (A := BN) (B := BF) hb3)
          have HK3 := Lib.hid hk3
          have hp3 := (HP1.out.kept hk3).c2
          have hq03 : w3.cell? ⟨w.heap.size, 0, none⟩ = some (.int .i64 a) := hk3.cell hq0 (show w.heap.size ≠ BN by omega) (show w.heap.size ≠ BF by omega)
          have hq13 : w3.cell? ⟨w.heap.size, 1, none⟩ = some (.int .i64 b) := hk3.cell hq1 (show w.heap.size ≠ BN by omega) (show w.heap.size ≠ BF by omega)
          clear hw0 hb3 hk3 hcq hq0' hq1' pc0 pc1 pc2 hl1' hl2'
          by_cases hup : s1 < 0 ∨ x + c < s1
          · obtain ⟨w4, mF4, hrun4, hF4, _, hmF4, hg4⟩ := (show RM w3.drew BF m' _ from HF3.out).put (by omega) a b (by omega) (by omega) (q : Int)
            have hmm : mF4 = m' := hmF4 (by unfold put2; rw [if_pos rfl]; rfl)
            have HF4 := Lib.hid hF4
            have HN4 := Lib.hid ((show RM w3.drew BN mN f from HN3.out).kept hg4 (by intro e; injection e with e; exact hne e))
            have HK4 := Lib.hid (HK3.out.trans ((Kept2.of_below (Below.refl w3.heap.size w3).drew).trans (Kept2.of_right (A := BN) hg4)))
            have HUP := Lib.hid (HQ1.out hup)
            clear hF4 hmF4 hg4
            by_cases h0 : s1 < 0
            · clear hup
              go_wp2_with fail
              refine wp_region_still_tail 6 (by kernel_rfl) (by kernel_rfl) ?_
              simp only [List.take_succ_cons, List.take_zero, List.drop_succ_cons, List.drop_zero]
              change wpStill _ _ (World.drew _) _ _ _
              repeat still_step
              refine wpStill_nil ?_
              change wpList _ _ _ _ _ (World.drew _)
              go_wp2_with fail
              go_roundw
              case rel =>
                refine ⟨k + 1, m', by omega, by rw [HUP.out], ?_, hm', ?_, HN4.out, HK4.out⟩
                · rw [show a + (k + 1) = q + 1 by have := HQ.out; omega]; rfl
                · rw [HUP.out, ← hmm]; exact HF4.out.congr (put2_twice _ _ _ _)
              case measure => simp [intOf]; omega
            · have h1 : x + c < s1 := by omega
              clear hup
              go_wp2_with fail
              refine wp_region_still_tail 6 (by kernel_rfl) (by kernel_rfl) ?_
              simp only [List.take_succ_cons, List.take_zero, List.drop_succ_cons, List.drop_zero]
              change wpStill _ _ (World.drew _) _ _ _
              repeat still_step
              refine wpStill_nil ?_
              change wpList _ _ _ _ _ (World.drew _)
              go_wp2_with fail
              go_roundw
              case rel =>
                refine ⟨k + 1, m', by omega, by rw [HUP.out], ?_, hm', ?_, HN4.out, HK4.out⟩
                · rw [show a + (k + 1) = q + 1 by have := HQ.out; omega]; rfl
                · rw [HUP.out, ← hmm]; exact HF4.out.congr (put2_twice _ _ _ _)
              case measure => simp [intOf]; omega
          · have HUP := Lib.hid (HQ2.out hup)
            have h0 : ¬ s1 < 0 := by omega
            have h1 : ¬ x + c < s1 := by omega
            clear hup
            go_wp2_with fail
            go_roundw
            case rel =>
              refine ⟨k + 1, m', by omega, by rw [HUP.out], ?_, hm', ?_, HN3.out, HK3.out⟩
              · rw [show a + (k + 1) = q + 1 by have := HQ.out; omega]; rfl
              · rw [HUP.out]; exact HF3.out
            case measure => simp [intOf]; omega
      · have hkb : k = b - a := by omega
        have hC : Cx xs a b = (scn xs (Cx xs) a b k).1 := by rw [Cx_long hab2, hkb]
        have hF : Fx xs a b = (scn xs (Cx xs) a b k).2 := by unfold Fx; rw [if_neg (by omega), hkb]
        rw [← hC] at hs1 ⊢
        rw [← hF] at hrF
        have hgb : (a : Int) + (k : Int) = (b : Int) := by omega
        obtain ⟨w4, mN4, hrun4, hN4, hmN4, _, hg4⟩ := (show RM wr.drew BN mN f from hrN).put (by omega) a b (by omega) (by omega) (Cx xs a b)
        have HN4 := Lib.hid hN4
        have HF4 := Lib.hid ((show RM wr.drew BF m' _ from hrF).kept hg4 (by intro e; injection e with e; exact hne e.symm))
        have HK4 := Lib.hid (HK1.out.trans (hkr.trans ((Kept2.of_below (Below.refl wr.heap.size wr).drew).trans (Kept2.of_left (B := BF) hg4))))
        clear hrF hrN hkr hN4 hg4 hC hF hkb
        obtain ⟨best, hbest⟩ : ∃ v, v = Cx xs a b := ⟨_, rfl⟩
        rw [← hbest] at hrun4 hs1 HN4 ⊢
        have HBE := Lib.hid hbest
        clear hbest
        go_wp2_with fail
        refine wp_region_still_tail 6 (by kernel_rfl) (by kernel_rfl) ?_
        simp only [List.take_succ_cons, List.take_zero, List.drop_succ_cons, List.drop_zero]
        change wpStill _ _ (World.drew _) _ _ _
        repeat still_step
        refine wpStill_nil ?_
        change wpList _ _ _ _ _ (World.drew _)
        go_wp2_with fail
        (try simp only [Exit.inBlock, Exit.then])
        first
          | refine bodyPost_end (results_none rfl _ _ _) rfl ?_
          | refine bodyPost_ret (results_none rfl _ _ _) rfl ?_
        refine ⟨rfl, HK4.out, ⟨mN4, hmN4, ?_⟩, m', hm', HF4.out⟩
        rw [if_neg (by omega), ← HBE.out]
        exact HN4.out
end Go.Proofs.Ytpdijlpdkdhgpaa
