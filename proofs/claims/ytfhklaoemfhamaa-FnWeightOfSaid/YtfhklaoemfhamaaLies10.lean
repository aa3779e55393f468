/- The law FnWeightOf. -/
import Derived.Test.YtfhklaoemfhamaaProg
import Derived.Test.YtfhklaoemfhamaaLies7
import Derived.Test.YtfhklaoemfhamaaLies9
namespace Go.Proofs.Ytfhklaoemfhamaa
open Go.RowKit

theorem Ws_one : ∀ m, m < 3 → Ws 0 (m + 1) = 1 := by decide
theorem Ws_grow : ∀ q, q < 9 → ∀ m, m < 3 → Ws q (m + 1) ≤ Ws (q + 1) (m + 1) ∧ Ws (q + 1) (m + 1) ≤ 2 * Ws q (m + 1) := by decide

theorem KOk_nn {xs : List Int} (h : KOk xs = true) : ∀ j, j < xs.length → 0 ≤ xs.getD j 0 ∧ xs.getD j 0 ≤ 10 := by
  unfold KOk at h
  simp only [Bool.and_eq_true, decide_eq_true_eq] at h
  intro j hj
  have := AllB_getD h.2.1 j hj
  omega
theorem KOk_len3 {xs : List Int} (h : KOk xs = true) : xs.length ≤ 3 := by
  unfold KOk at h
  simp only [Bool.and_eq_true, decide_eq_true_eq] at h
  exact h.1.2

theorem WS_zero {xs : List Int} (h : KOk xs = true) : ∀ k, k ≤ xs.length → WS xs 0 k = Sm xs k := by
  intro k
  induction k with
  | zero => intro _; rfl
  | succ k ih =>
    intro hk
    have := KOk_len3 h
    rw [WS, Sm, ih (by omega), Ws_one k (by omega)]
    omega
theorem WS_more {xs : List Int} {q : Nat} (h : KOk xs = true) (hq : q < 9) : ∀ k, k ≤ xs.length → WS xs q k ≤ WS xs (q + 1) k ∧ WS xs (q + 1) k ≤ 2 * WS xs q k := by
  intro k
  induction k with
  | zero => intro _; simp [WS]
  | succ k ih =>
    intro hk
    have h3 := KOk_len3 h
    obtain ⟨a1, a2⟩ := Ws_grow q hq k (by omega)
    obtain ⟨b1, b2⟩ := ih (by omega)
    have hx := (KOk_nn h k (by omega)).1
    rw [WS, WS]
    generalize xs.getD k 0 = x at *
    generalize Ws q (k + 1) = A at *
    generalize Ws (q + 1) (k + 1) = B at *
    have c1 : x * (A : Int) ≤ x * (B : Int) := Int.mul_le_mul_of_nonneg_left (by omega) hx
    have c2 : x * (B : Int) ≤ x * (2 * (A : Int)) := Int.mul_le_mul_of_nonneg_left (by omega) hx
    have c3 : x * (2 * (A : Int)) = 2 * (x * (A : Int)) := by rw [← Int.mul_assoc, Int.mul_comm x 2, Int.mul_assoc]
    omega

set_option maxHeartbeats 400000 in
theorem sumOf_any (v : Value) (xs : List Int) (w : World) (h : Rd w v xs) (hl : xs.length ≤ 1000) (hb : ∀ j, j < xs.length → 0 ≤ xs.getD j 0 ∧ xs.getD j 0 ≤ 1000) :
    Calls Try.prog 32 #[v] w fun e w' => e = .returned (.int .i64 (Sm xs xs.length)) ∧ w = w' := by
  have HS := Lib.hid (Sm_bd (c := 1000) hb)
  have HB := Lib.hid hb
  clear hb
  obtain ⟨a, ca, rfl, hm, ha⟩ := h
  have HA := Lib.hid ha
  clear ha hm
  go_enter Try.func32, Try.ntmps32
  go_wp2_with fail
  go_loop [3, 4] (fun n q => ∃ k : Nat, k ≤ xs.length ∧ q = .int .i64 k ∧ n = .int .i64 (Sm xs k)) (fun _ q => xs.length - (intOf q).toNat)
  case atStart => exact ⟨0, by omega, rfl, rfl⟩
  case round =>
    obtain ⟨k, hk, rfl, rfl⟩ := hrel
    by_cases hlt : k < xs.length
    · have hne : xs ≠ [] := by intro e; rw [e] at hlt; simp at hlt
      obtain ⟨g, off, rfl, hc⟩ := HA.out hne
      have hck := hc k (by omega)
      have hs := HS.out k (by omega)
      have hx := HB.out k (by omega)
      have HN : Hid (Sm xs (k + 1) = Sm xs k + xs.getD k 0) := rfl
      generalize xs.getD k 0 = x at *
      generalize Sm xs k = s at *
      have hi0 : (0 : Int) ≤ (k : Int) := by omega
      have hi1 : (k : Int) < (xs.length : Int) := by omega
      clear hc hne
      go_wp2_with fail
      go_round
      case rel => exact ⟨k + 1, by omega, by go_num, by rw [HN.out]⟩
      case measure => simp [intOf]; omega
    · have hke : k = xs.length := by omega
      have HK := Lib.hid hke
      clear hke
      go_wp2_with fail
      go_ret
      exact ⟨ret_int (by rw [HK.out]), rfl⟩

set_option maxHeartbeats 1000000 in
theorem draw_WeightOf (a : Option Addr) (len cap : Nat) (w : World) (h : Code8 w a len cap) :
    Calls Try.prog 31 #[.slice a len cap] w fun e w' => ∃ (v : Value) (L : List Int) (q : Int), e = .returned (.tuple #[v, .int .i64 q]) ∧ -1 ≤ q ∧ q ≤ 10 ∧ w'.ownsRow w.heap.size 3 1 v L.length (L.map (Value.int .i64)) ∧ L.length ≤ 3 ∧ Below w.heap.size w w' := by
  go_enter Try.func31, Try.ntmps31
  go_wp2_with fail
  refine (open_any a len cap w h).mono ?_
  rintro e w1 ⟨rfl, hr, hb⟩
  go_wp2_with fail
  refine (known_any w.heap.size 0 9 (by omega) (by omega) (by omega) w1 hr.toU).mono ?_
  rintro e w2 ⟨v, L, rfl, hown, hL, hr2, hg⟩
  go_wp2_with fail
  refine (pick_u w.heap.size 10 11 (by omega) (by omega) (by omega) w2 _ hr2).mono ?_
  rintro e w3 ⟨p, rfl, hp0, hp1, hr3, hg3⟩
  go_wp2_with fail
  refine (pick_u w.heap.size 11 20 (by omega) (by omega) (by omega) w3 _ hr3).mono ?_
  rintro e w4 ⟨p2, rfl, hp20, hp21, hr4, hg4⟩
  go_wp2_with fail
  go_ret2
  have hlt : w.heap.size < w1.heap.size := hr.lt
  exact ⟨_, L, _, rfl, by omega, by omega, (owns_grown (owns_grown hown hg3 hlt) hg4 hlt).mono hb.size, hL, hb.trans (below_of_grownBy (grownBy_then2 (grownBy_then2 hg hg3) hg4) hb.size (Nat.le_refl _))⟩

theorem impl_WO {xs : List Int} {q n : Int} (e : WO xs q = n) (v : Value) (w : World) (h : Rd w v xs) :
    Calls Try.prog 19 #[v, .int .i64 q] w fun e w' => e = .returned (.int .i64 n) ∧ Below w.heap.size w w' := by
  rw [← e]; exact impl_WeightOf v xs q w h
theorem spec_WO {xs : List Int} {q n : Int} (e : WO xs q = n) (v : Value) (w : World) (h : Rd w v xs) (hl : xs.length ≤ 1048576) :
    Calls Try.prog 18 #[v, .int .i64 q] w fun e w' => e = .returned (.int .i64 n) ∧ Below w.heap.size w w' := by
  rw [← e]; exact spec_WeightOf v xs q w h hl

set_option maxHeartbeats 2000000 in
theorem law_FnWeightOf (a0 : Option Addr) (len0 cap0 : Nat) (z0 : List Int) (w : World) (w0 : IsRow .u8 w a0 len0 cap0 z0) :
    Calls Try.prog 11 #[.slice a0 len0 cap0] w fun e w' => e = .returned (.bool true) ∧ Below w.heap.size w w' := by
  have hc := Code8.of_row w0
  clear w0
  by_cases hl : 1048576 < len0
  · go_enter Try.func11, Try.ntmps11
    go_wp2_with fail
    go_ret
    exact ⟨rfl, Below.refl _ _⟩
  · go_enter Try.func11, Try.ntmps11
    go_wp2_with fail
    refine (draw_WeightOf _ _ _ _ hc).mono ?_
    rintro e w1 ⟨v, L, q, rfl, hq0, hq1, hown, hL, hb1⟩
    clear hc
    have hrd := (Ow.of_row hown (by simp only [maxLen]; omega)).rd
    have hbr := Below.refl w1.heap.size w1
    by_cases hin : KOk L = true ∧ 0 ≤ q ∧ q ≤ 9
    · obtain ⟨hk, i0, i1⟩ := hin
      obtain ⟨m, rfl⟩ : ∃ m : Nat, q = m := ⟨q.toNat, by omega⟩
      have e0 := WO_in (q := m) hk (by omega)
      have ez : WO L 0 = Sm L L.length := by rw [show (0 : Int) = ((0 : Nat) : Int) by rfl, WO_in hk (by omega), WS_zero hk _ (Nat.le_refl _)]
      have hn := WS_bd (q := m) hk (by omega) L.length (Nat.le_refl _)
      have ks := Lib.hid (fun w' (b : Below w1.heap.size w1 w') => sumOf_any v L w' (hrd.below b) (by omega) (fun j hj => by have := KOk_nn hk j hj; omega))
      have kz := Lib.hid (fun w' (b : Below w1.heap.size w1 w') => impl_WO ez v w' (hrd.below b))
      have k1 := Lib.hid (fun w' (b : Below w1.heap.size w1 w') => impl_WO e0 v w' (hrd.below b))
      have k2 := Lib.hid (fun w' (b : Below w1.heap.size w1 w') => spec_WO e0 v w' (hrd.below b) (by omega))
      have hn2 : 0 ≤ WS L m L.length ∧ WS L m L.length ≤ 1500 := by omega
      by_cases h9 : m = 9
      · have e1 : WO L ((m : Int) + 1) = -1 := WO_out (by omega)
        have k3 := Lib.hid (fun w' (b : Below w1.heap.size w1 w') => impl_WO e1 v w' (hrd.below b))
        have hm9 : ((m : Int) == 9) = true := by simp; omega
        generalize WS L m L.length = n at *
        generalize Sm L L.length = S at *
        clear e0 ez e1 hk hown hn hrd h9
        go_wp2_with (first
          | (go_at_call 19; (with_reducible refine (k1.out _ hbr).mono ?_); rintro e w2 ⟨rfl, hb2⟩)
          | (go_at_call 18; (with_reducible refine (k2.out _ hb2).mono ?_); rintro e w3 ⟨rfl, hb3⟩; have n3 := below_call hb2 (Nat.le_refl _) hb3)
          | (go_at_call 19; (with_reducible refine (k3.out _ n3).mono ?_); rintro e w4 ⟨rfl, hb4⟩; have n4 := below_call n3 (Nat.le_refl _) hb4)
          | (go_at_call 19; (with_reducible refine (kz.out _ n4).mono ?_); rintro e w5 ⟨rfl, hb5⟩; have n5 := below_call n4 (Nat.le_refl _) hb5)
          | (go_at_call 32; (with_reducible refine (ks.out _ n5).mono ?_); rintro e w6 ⟨rfl, rfl⟩))
        go_ret
        exact ⟨rfl, below_call hb1 (Nat.le_refl _) n5⟩
      · have e1 : WO L ((m : Int) + 1) = WS L (m + 1) L.length := by have := WO_in (q := m + 1) hk (by omega); rw [← this]; rfl
        obtain ⟨g1, g2⟩ := WS_more (q := m) hk (by omega) L.length (Nat.le_refl _)
        have k3 := Lib.hid (fun w' (b : Below w1.heap.size w1 w') => impl_WO e1 v w' (hrd.below b))
        have hm9 : ((m : Int) == 9) = false := by simp; omega
        generalize WS L m L.length = n at *
        generalize WS L (m + 1) L.length = n2 at *
        generalize Sm L L.length = S at *
        clear e0 ez e1 hk hown hn hrd h9
        go_wp2_with (first
          | (go_at_call 19; (with_reducible refine (k1.out _ hbr).mono ?_); rintro e w2 ⟨rfl, hb2⟩)
          | (go_at_call 18; (with_reducible refine (k2.out _ hb2).mono ?_); rintro e w3 ⟨rfl, hb3⟩; have n3 := below_call hb2 (Nat.le_refl _) hb3)
          | (go_at_call 19; (with_reducible refine (k3.out _ n3).mono ?_); rintro e w4 ⟨rfl, hb4⟩; have n4 := below_call n3 (Nat.le_refl _) hb4)
          | (go_at_call 19; (with_reducible refine (kz.out _ n4).mono ?_); rintro e w5 ⟨rfl, hb5⟩; have n5 := below_call n4 (Nat.le_refl _) hb5)
          | (go_at_call 32; (with_reducible refine (ks.out _ n5).mono ?_); rintro e w6 ⟨rfl, rfl⟩))
        go_ret
        exact ⟨ret_bool (by simp), below_call hb1 (Nat.le_refl _) n5⟩
    · have e0 := WO_out hin
      have k1 := Lib.hid (fun w' (b : Below w1.heap.size w1 w') => impl_WO e0 v w' (hrd.below b))
      have k2 := Lib.hid (fun w' (b : Below w1.heap.size w1 w') => spec_WO e0 v w' (hrd.below b) (by omega))
      clear e0 hin hown hrd
      go_wp2_with (first
        | (go_at_call 19; (with_reducible refine (k1.out _ hbr).mono ?_); rintro e w2 ⟨rfl, hb2⟩)
        | (go_at_call 18; (with_reducible refine (k2.out _ hb2).mono ?_); rintro e w3 ⟨rfl, hb3⟩; have n3 := below_call hb2 (Nat.le_refl _) hb3)
        | (go_at_call 29; refine (alive_any _).mono ?_; rintro e w7 ⟨rfl, rfl⟩))
      go_ret
      exact ⟨rfl, below_call hb1 (Nat.le_refl _) n3⟩
end Go.Proofs.Ytfhklaoemfhamaa
