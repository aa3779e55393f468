/- The plans for prices; SureWith. -/
import Derived.Test.YtpdijlpdkdhgpaaProg
import Derived.Test.YtpdijlpdkdhgpaaPrices5
namespace Go.Proofs.Ytpdijlpdkdhgpaa
open Go.RowKit

/-- All runs shorter than L are settled, and those as long that begin before F. -/
structure Stl (xs : List Int) (n L F : Nat) (f g : Nat × Nat → Option Value) : Prop where
  need : ∀ i j, i ≤ j → j ≤ n → (j - i < L ∨ (j - i = L ∧ i < F)) → (f (i, j)).getD (.int .i64 0) = .int .i64 (Cx xs i j)
  first : ∀ i j, i < j → j ≤ n → (j - i < L ∨ (j - i = L ∧ i < F)) → g (i, j) = some (.int .i64 (Fx xs i j))
  short : ∀ i j, j ≤ i + 1 → f (i, j) = none
theorem Stl.start (xs : List Int) (n : Nat) : Stl xs n 1 0 (fun _ => none) (fun _ => none) :=
  ⟨fun i j _ _ h => by rw [Cx_short (by omega)]; rfl, fun i j _ _ h => by omega, fun _ _ _ => rfl⟩
theorem Stl.step {xs : List Int} {n L F : Nat} {f g : Nat × Nat → Option Value} (h : Stl xs n L F f g) :
    Stl xs n L (F + 1) (if F + L ≤ F + 1 then f else put2 f (F, F + L) (.int .i64 (Cx xs F (F + L)))) (put2 g (F, F + L) (.int .i64 (Fx xs F (F + L)))) := by
  refine ⟨fun i j hij hjn hd => ?_, fun i j hij hjn hd => ?_, fun i j hij => ?_⟩
  · by_cases e : F + L ≤ F + 1
    · rw [if_pos e]
      by_cases e2 : j ≤ i + 1
      · rw [h.short i j e2, Cx_short e2]; rfl
      · exact h.need i j hij hjn (by omega)
    · rw [if_neg e]
      unfold put2
      by_cases e2 : (i, j) = (F, F + L)
      · simp only [Prod.mk.injEq] at e2
        obtain ⟨rfl, rfl⟩ := e2
        rw [if_pos rfl]; rfl
      · rw [if_neg e2]
        simp only [Prod.mk.injEq, not_and] at e2
        refine h.need i j hij hjn ?_
        rcases hd with hd | ⟨hd, hi⟩
        · exact .inl hd
        · by_cases ei : i = F
          · exact absurd (by omega) (e2 ei)
          · exact .inr ⟨hd, by omega⟩
  · unfold put2
    by_cases e2 : (i, j) = (F, F + L)
    · simp only [Prod.mk.injEq] at e2
      obtain ⟨rfl, rfl⟩ := e2
      rw [if_pos rfl]
    · rw [if_neg e2]
      simp only [Prod.mk.injEq, not_and] at e2
      refine h.first i j hij hjn ?_
      rcases hd with hd | ⟨hd, hi⟩
      · exact .inl hd
      · by_cases ei : i = F
        · exact absurd (by omega) (e2 ei)
        · exact .inr ⟨hd, by omega⟩
  · by_cases e : F + L ≤ F + 1
    · rw [if_pos e]; exact h.short i j hij
    · rw [if_neg e]
      unfold put2
      rw [if_neg (by intro e2; simp only [Prod.mk.injEq] at e2; omega)]
      exact h.short i j hij
theorem Stl.next {xs : List Int} {n L F : Nat} {f g : Nat × Nat → Option Value} (h : Stl xs n L F f g) (hF : n < F + L) : Stl xs n (L + 1) 0 f g :=
  ⟨fun i j hij hjn hd => h.need i j hij hjn (by omega), fun i j hij hjn hd => h.first i j hij hjn (by omega), h.short⟩
theorem Kept2.above {w w1 w2 : World} {A B H : Nat} (b : Below H w w1) (k : Kept2 w1 w2 A B) (hH : H ≤ w1.heap.size) (hA : H ≤ A) (hB : H ≤ B) : Below H w w2 :=
  b.trans ⟨k.os, k.tape, k.output, k.size, fun i hi => k.block i (by omega) (by omega) (by omega)⟩

def PlPost (xs : List Int) (n : Nat) (va : Value) (w : World) (e : Ending) (w' : World) : Prop :=
  ∃ (Bp BN BF mN mF : Nat) (f g : Nat × Nat → Option Value), e = .returned (.pointer (some ⟨Bp, 0, none⟩)) ∧ Plans w' Bp va BN BF ∧ RM w' BN mN f ∧ RM w' BF mF g ∧ Stl xs n (n + 1) 0 f g ∧ Below w.heap.size w w'

set_option maxHeartbeats 2000000 in
theorem plansFor_any (xs : List Int) (n : Nat) (va : Value) (w : World) (hn : xs.length = n) (hn9 : n ≤ 9) (hx : ∀ j, 0 ≤ xs.getD j 0 ∧ xs.getD j 0 ≤ 50) (hr : Rd w va xs) :
    Calls Try.prog 28 #[va] w (PlPost xs n va w) := by
  have HR := Lib.hid hr
  obtain ⟨ao, ca, rfl, _, _⟩ := hr
  rw [hn] at HR ⊢
  have hmm : ∀ w : World, (Instr.makeMap 37 none).run Try.prog w = .ok (.map (some w.heap.size)) (w.alloc (.map #[] 0)) := fun w => by apply run_makeMap
  obtain ⟨w3, hw3⟩ : ∃ w3, w3 = ((w.alloc (.map #[] 0)).alloc (.map #[] 0)).alloc (.cells #[.slice ao n ca, .map (some w.heap.size), .map (some (w.heap.size + 1))] 39) := ⟨_, rfl⟩
  have hb3 : Below w.heap.size w w3 := by rw [hw3]; exact (((Below.refl _ _).alloc (Nat.le_refl _) _).alloc (by simp) _).alloc (by simp; omega) _
  have hN3 : RM w3 w.heap.size 0 (fun _ => none) := by
    rw [hw3]
    exact ((MapAt.made Try.prog 43 kv w).kept (grownBy_any none ((Below.refl _ _).alloc (Nat.le_refl _) _)) (by simp)).kept (grownBy_any none ((Below.refl _ _).alloc (Nat.le_refl _) _)) (by simp)
  have hF3 : RM w3 (w.heap.size + 1) 0 (fun _ => none) := by
    rw [hw3]
    have := MapAt.made Try.prog 43 kv (w.alloc (.map #[] 0))
    rw [World.size_alloc] at this
    exact this.kept (grownBy_any none ((Below.refl _ _).alloc (Nat.le_refl _) _)) (by simp)
  have hP3 : Plans w3 (w.heap.size + 1 + 1) (.slice ao n ca) w.heap.size (w.heap.size + 1) := by
    rw [hw3]
    exact ⟨(World.cell?_alloc_at _ _ _ _ (by simp)).trans rfl, (World.cell?_alloc_at _ _ _ _ (by simp)).trans rfl, (World.cell?_alloc_at _ _ _ _ (by simp)).trans rfl, by omega, by omega⟩
  have HR3 := Lib.hid (HR.out.below hb3)
  go_enter Try.func28, Try.ntmps28
  go_wp2_with fail
  rw [← hw3]
  have HB3 := Lib.hid hb3
  have HN3 := Lib.hid hN3
  have HF3 := Lib.hid hF3
  have HP3 := Lib.hid hP3
  have hz3 : w.heap.size ≤ w3.heap.size := hb3.size
  obtain ⟨BN, hBN⟩ : ∃ B, B = w.heap.size := ⟨_, rfl⟩
  have HBN := Lib.hid hBN
  clear hw3 hb3 hN3 hF3 hP3 hmm hBN
  go_loopw [4] (fun v wr => ∃ (L mN mF : Nat) (f g : Nat × Nat → Option Value), 1 ≤ L ∧ L ≤ n + 1 ∧ v = .int .i64 L ∧ mN ≤ 20 * L ∧ mF ≤ 20 * L ∧ RM wr w.heap.size mN f ∧ RM wr (w.heap.size + 1) mF g ∧ Stl xs n L 0 f g ∧ Kept2 w3 wr w.heap.size (w.heap.size + 1)) (fun v _ => n + 1 - (intOf v).toNat)
  case atStart => exact ⟨1, 0, 0, _, _, by omega, by omega, rfl, by omega, by omega, HN3.out, HF3.out, Stl.start xs n, Kept2.refl _ _ _⟩
  case round =>
    obtain ⟨L, mN, mF, f, g, hL1, hL2, rfl, hmN, hmF, hN, hF, hs, hk⟩ := hrel
    by_cases hlt : L ≤ n
    · have hlti : (L : Int) ≤ (n : Int) := by omega
      go_wp2_with fail
      go_loopw [5] (fun v wr => ∃ (F mN mF : Nat) (f g : Nat × Nat → Option Value), F + L ≤ n + 1 ∧ v = .int .i64 F ∧ mN ≤ 20 * L + F ∧ mF ≤ 20 * L + F ∧ RM wr w.heap.size mN f ∧ RM wr (w.heap.size + 1) mF g ∧ Stl xs n L F f g ∧ Kept2 w3 wr w.heap.size (w.heap.size + 1)) (fun v _ => n + 1 - (intOf v).toNat)
      case atStart => exact ⟨0, mN, mF, f, g, by omega, rfl, by omega, by omega, hN, hF, hs, hk⟩
      case round =>
        clear hN hF hs hk hmN hmF
        obtain ⟨F, mN, mF, f, g, hFL, rfl, hmN, hmF, hN, hF, hs, hk⟩ := hrel
        have hbr := Kept2.above HB3.out hk hz3 (Nat.le_refl _) (by omega)
        by_cases hlt2 : F + L ≤ n
        · have kS := settle_any xs n F (F + L) (.slice ao n ca) (w.heap.size + 1 + 1) w.heap.size (w.heap.size + 1) mN mF f g wr hn hn9 (by omega) hlt2 hx (HP3.out.kept hk) (HR.out.below hbr) hN hF (by omega) (by omega) (by omega) (fun i j h1 h2 h3 h4 => hs.need i j h2 (by omega) (.inl (by omega)))
          rw [Int.natCast_add] at kS
          have KS := Lib.hid kS
          have hlt2i : (F : Int) + (L : Int) ≤ (n : Int) := by omega
          have HS := Lib.hid hs
          have HK := Lib.hid hk
          clear kS hs hk hN hF hbr
          go_wp2_with fail
          refine KS.out.mono ?_
          rintro e w5 ⟨rfl, hk5, ⟨mN5, hmN5, hN5⟩, mF5, hmF5, hF5⟩
          have HK5 := Lib.hid (HK.out.trans hk5)
          have HN5 := Lib.hid hN5
          have HF5 := Lib.hid hF5
          clear hk5 hN5 hF5
          go_wp2_with fail
          go_roundw
          case rel => exact ⟨F + 1, mN5, mF5, _, _, by omega, by go_num, by omega, by omega, HN5.out, HF5.out, HS.out.step, HK5.out⟩
          case measure => simp [intOf]; omega
        · have hlt2i : ¬ (F : Int) + (L : Int) ≤ (n : Int) := by omega
          have HS := Lib.hid (hs.next (by omega))
          have HK := Lib.hid hk
          have HN := Lib.hid hN
          have HF := Lib.hid hF
          clear hs hk hN hF hbr
          go_wp2_with fail
          go_roundw
          case rel => exact ⟨L + 1, mN, mF, f, g, by omega, by omega, by go_num, by omega, by omega, HN.out, HF.out, HS.out, HK.out⟩
          case measure => simp [intOf]; omega
    · have hlti : ¬ (L : Int) ≤ (n : Int) := by omega
      have hLn : L = n + 1 := by omega
      have HS := Lib.hid (show Stl xs n (n + 1) 0 f g by rw [← hLn]; exact hs)
      have HP := Lib.hid (HP3.out.kept hk)
      have HB := Lib.hid (Kept2.above HB3.out hk hz3 (Nat.le_refl _) (by omega))
      have HN := Lib.hid hN
      have HF := Lib.hid hF
      clear hs hk hN hF hLn
      go_wp2_with fail
      go_ret
      exact ⟨_, _, _, _, _, f, g, rfl, HP.out, HN.out, HF.out, HS.out, HB.out⟩
end Go.Proofs.Ytpdijlpdkdhgpaa
