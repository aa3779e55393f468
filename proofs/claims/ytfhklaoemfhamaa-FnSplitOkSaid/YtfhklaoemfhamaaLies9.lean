/- What is known, drawn; the law FnKnownOk. -/
import Derived.Test.YtfhklaoemfhamaaProg
import Derived.Test.YtfhklaoemfhamaaLies1
import Derived.Test.YtfhklaoemfhamaaDrawU
import Derived.Test.YtfhklaoemfhamaaAlive
import Derived.Deep.AppendLies
namespace Go.Proofs.Ytfhklaoemfhamaa
open Go.RowKit

theorem owns_set0 {w : World} {B g n cap : Nat} {L : List Int} (h : w.ownsRow B 3 1 (.slice (some ⟨g, 0, none⟩) n cap) n (L.map (Value.int .i64))) (hn : n = L.length) (x : Int) :
    (w.setCell ⟨g, 0, none⟩ (.int .i64 x)).ownsRow B 3 1 (.slice (some ⟨g, 0, none⟩) n cap) (L.set 0 x).length ((L.set 0 x).map (Value.int .i64)) := by
  have := (h.stored 0 (.int .i64 x)).1
  rw [List.map_set, List.length_set, ← hn]
  exact this

set_option maxHeartbeats 1000000 in
theorem known_any (R N : Nat) (n : Int) (hn : 0 ≤ n) (hn2 : n ≤ 1000) (hN : N ≤ 1000000) (w : World) (h : RdU w R N w.heap.size) :
    Calls Try.prog 43 #[.pointer (some ⟨R, 0, none⟩), .int .i64 n] w fun e w' => ∃ (v : Value) (L : List Int), e = .returned v ∧ w'.ownsRow w.heap.size 3 1 v L.length (L.map (Value.int .i64)) ∧ L.length ≤ 3 ∧ RdU w' R (N + 10) w.heap.size ∧ w.grownBy w' (some R) := by
  obtain ⟨B, hB⟩ : ∃ B, B = w.heap.size := ⟨_, rfl⟩
  have hR : R < B := by rw [hB]; exact h.1
  have ha : Below B w (w.alloc (.cells #[] 3)) := by rw [hB]; exact (Below.refl _ _).alloc (Nat.le_refl _) _
  rw [← hB] at h ⊢
  have HG := Lib.hid (grownBy_any (some R) (show Below w.heap.size w (w.alloc (.cells #[] 3)) by rw [← hB]; exact ha))
  have HO := Lib.hid (show (w.alloc (.cells #[] 3)).ownsRow B 3 1 (.slice (some ⟨w.heap.size, 0, none⟩) 0 0) 0 [] by rw [hB]; exact World.ownsRow_made w #[] 0 (Nat.le_refl _) (by simp [maxLen]) (by simp))
  have HR := Lib.hid (h.below ha)
  have HB := Lib.hid hB
  clear h ha hB
  go_enter Try.func43, Try.ntmps43
  go_wp2_with fail
  refine (pick_u R N 6 (by omega) (by omega) (by omega) _ B HR.out).mono ?_
  rintro e w1 ⟨l, rfl, hl0, hl1, hr1, hg1⟩
  have HG1 := Lib.hid (grownBy_then2 HG.out hg1)
  have HO1 := Lib.hid (owns_grown HO.out hg1 hR)
  clear HG HO HR hg1
  go_wp2_with fail
  refine (pick_u R (N + 1) 3 (by omega) (by omega) (by omega) _ B hr1).mono ?_
  rintro e w2 ⟨k, rfl, hk0, hk1, hr2, hg2⟩
  have HG2 := Lib.hid (grownBy_then2 HG1.out hg2)
  have HO2 := Lib.hid (owns_grown HO1.out hg2 hR)
  clear HG1 HO1 hr1 hg2
  go_wp2_with fail
  go_loopw [5, 6, 7, 8] (fun vo vl vk _ wr => ∃ (L : List Int) (l k : Int), 0 ≤ k ∧ 1 ≤ k + L.length ∧ k + L.length ≤ 3 ∧ 0 ≤ l ∧ l ≤ 6 ∧ vl = .int .i64 l ∧ vk = .int .i64 k ∧
      wr.ownsRow B 3 1 vo L.length (L.map (Value.int .i64)) ∧ RdU wr R (N + 2 + L.length) B ∧ w.grownBy wr (some R)) (fun _ _ vk _ _ => (intOf vk).toNat)
  case atStart => exact ⟨[], 1 + l, 1 + k, by omega, by simp; omega, by simp; omega, by omega, by omega, rfl, rfl, HO2.out, hr2, HG2.out⟩
  case round =>
    clear HO2 hr2 HG2 hl0 hl1 hk0 hk1
    obtain ⟨L, l, k, hk0, hk1, hk2, hl0, hl1, rfl, rfl, hown, hr, hg⟩ := hrel
    have hsz : B ≤ wr.heap.size := by rw [HB.out]; exact hg.size
    have HBg := Lib.hid hg
    clear hg
    by_cases hk : 0 < k
    · go_wp2_with fail
      refine (pick_u R (N + 2 + L.length) (l + 1) (by omega) (by omega) (by omega) _ B hr).mono ?_
      rintro e w3 ⟨x, rfl, hx0, hx1, hr3, hg3⟩
      have hown3 := owns_grown hown hg3 hR
      have hsz3 : B ≤ w3.heap.size := Nat.le_trans hsz hg3.size
      have HG3 := Lib.hid (grownBy_then2 HBg.out hg3)
      have hL : L.length < 1000000000 := by omega
      clear hown hr hg3 HBg
      go_wp2_with (first | (at_builtin; (refine wpList_append_int _ rfl _ _ rfl B _ L x hown3 rfl rfl hL hsz3 ?_); intro v2 w4 hown4 hb4))
      go_roundw
      case rel => exact ⟨L ++ [x], l - x, k - 1, by omega, by simp; omega, by simp; omega, by omega, by omega, by go_num, by go_num, hown4, (hr3.below hb4).more (by simp; omega), grownBy_then HG3.out (by rw [← HB.out]; exact hb4)⟩
      case measure => simp [intOf]; omega
    · obtain rfl : k = 0 := by omega
      clear hk
      obtain ⟨g, cap, rfl, hbg, hlt⟩ := hown.form (by omega)
      have hL1 : 0 < L.length := by omega
      go_wp2_with fail
      refine (odd_u R (N + 2 + L.length) n hn (by omega) (by omega) _ B hr).mono ?_
      rintro e w3 ⟨b, rfl, hr3, hg3⟩
      have HO3 := Lib.hid (owns_grown hown hg3 hR)
      have HG3 := Lib.hid (grownBy_then2 HBg.out hg3)
      clear hown hr hg3 HBg hlt
      cases b with
      | false =>
        go_wp2_with fail
        go_ret
        exact ⟨_, L, rfl, HO3.out, by omega, hr3.more (by omega), HG3.out⟩
      | true =>
        go_wp2_with fail
        refine (pick_u R (N + 2 + L.length + 1) 3 (by omega) (by omega) (by omega) _ B hr3).mono ?_
        rintro e w4 ⟨v, rfl, hv0, hv1, hr4, hg4⟩
        have HO4 := Lib.hid (owns_grown HO3.out hg4 hR)
        have HG4 := Lib.hid (grownBy_then2 HG3.out hg4)
        have c0 := HO4.out.cellAt 0 (by omega)
        rw [ints_getD L 0 hL1] at c0
        have f0 := HO4.out.frozenAt 0
        clear HO3 HG3 hr3 hg4
        have hv : v = 0 ∨ v = 1 ∨ v = 2 := by omega
        rcases hv with rfl | rfl | rfl
        · go_wp2_with fail
          go_ret
          have s4 : B ≤ w4.heap.size := by rw [HB.out]; exact HG4.out.size
          have ha : Below B w4 (w4.alloc (.cells #[] 3)) := (Below.refl _ _).alloc s4 _
          exact ⟨_, [], rfl, World.ownsRow_made w4 #[] 0 s4 (by simp [maxLen]) (by simp), by simp, (hr4.below ha).more (by omega), grownBy_then HG4.out (by rw [← HB.out]; exact ha)⟩
        · go_wp2_with fail
          go_ret
          have ha : Below B w4 (w4.setCell ⟨g, 0, none⟩ (.int .i64 (-1))) := (Below.refl _ _).setCell hbg _
          exact ⟨_, L.set 0 (-1), rfl, owns_set0 HO4.out rfl (-1), by simp; omega, (hr4.below ha).more (by omega), grownBy_then HG4.out (by rw [← HB.out]; exact ha)⟩
        · go_wp2_with fail
          go_ret
          have ha : Below B w4 (w4.setCell ⟨g, 0, none⟩ (.int .i64 11)) := (Below.refl _ _).setCell hbg _
          exact ⟨_, L.set 0 11, rfl, owns_set0 HO4.out rfl 11, by simp; omega, (hr4.below ha).more (by omega), grownBy_then HG4.out (by rw [← HB.out]; exact ha)⟩

set_option maxHeartbeats 1000000 in
theorem draw_KnownOk (a : Option Addr) (len cap : Nat) (w : World) (h : Code8 w a len cap) :
    Calls Try.prog 28 #[.slice a len cap] w fun e w' => ∃ (v : Value) (L : List Int), e = .returned v ∧ w'.ownsRow w.heap.size 3 1 v L.length (L.map (Value.int .i64)) ∧ L.length ≤ 3 ∧ Below w.heap.size w w' := by
  go_enter Try.func28, Try.ntmps28
  go_wp2_with fail
  refine (open_any a len cap w h).mono ?_
  rintro e w1 ⟨rfl, hr, hb⟩
  go_wp2_with fail
  refine (known_any w.heap.size 0 3 (by omega) (by omega) (by omega) w1 hr.toU).mono ?_
  rintro e w2 ⟨v, L, rfl, hown, hL, _, hg⟩
  go_wp2_with fail
  go_ret
  exact ⟨_, L, rfl, hown.mono hb.size, hL, hb.trans (below_of_grownBy hg hb.size (Nat.le_refl _))⟩

theorem KOk_take1 {xs : List Int} (h : KOk xs = true) : 0 < xs.length ∧ KOk ((xs.drop 0).take 1) = true := by
  match xs, h with
  | [], h => simp [KOk] at h
  | x :: t, h =>
    unfold KOk at h ⊢
    simp only [Bool.and_eq_true, decide_eq_true_eq] at h ⊢
    have hx := AllB_getD h.2.1 0 (by simp)
    simp at hx
    refine ⟨by simp, by simp, ?_, ?_⟩
    · simp [AllB, hx]
    · simp [Sm]; omega
theorem impl_KO {xs : List Int} {b : Bool} (e : KOk xs = b) (v : Value) (w : World) (h : Rd w v xs) :
    Calls Try.prog 14 #[v] w fun e w' => e = .returned (.bool b) ∧ Below w.heap.size w w' := by
  rw [← e]; exact impl_KnownOk v xs w h

set_option maxHeartbeats 2000000 in
theorem law_FnKnownOk (a0 : Option Addr) (len0 cap0 : Nat) (z0 : List Int) (w : World) (w0 : IsRow .u8 w a0 len0 cap0 z0) :
    Calls Try.prog 9 #[.slice a0 len0 cap0] w fun e w' => e = .returned (.bool true) ∧ Below w.heap.size w w' := by
  have hc := Code8.of_row w0
  clear w0
  have kz1 := Lib.hid (fun w' : World => impl_KO (show KOk [0] = true by decide) (.slice (some ⟨w'.heap.size, 0, none⟩) 1 1) (w'.alloc (.cells #[.int .i64 0] 3)) (rd_lit w' [0] (by decide)))
  have kz3 := Lib.hid (fun w' : World => impl_KO (show KOk [0, 0, 0] = true by decide) (.slice (some ⟨w'.heap.size, 0, none⟩) 3 3) (w'.alloc (.cells #[.int .i64 0, .int .i64 0, .int .i64 0] 3)) (rd_lit w' [0, 0, 0] (by decide)))
  have kz0 := Lib.hid (fun w' : World => impl_KO (show KOk [] = false by decide) (.slice (some ⟨w'.heap.size, 0, none⟩) 0 0) (w'.alloc (.cells #[] 3)) (rd_lit w' [] (by decide)))
  by_cases hl : 1048576 < len0
  · clear kz1 kz3 kz0
    go_enter Try.func9, Try.ntmps9
    go_wp2_with fail
    go_ret
    exact ⟨rfl, Below.refl _ _⟩
  · go_enter Try.func9, Try.ntmps9
    go_wp2_with fail
    refine (draw_KnownOk _ _ _ _ hc).mono ?_
    rintro e w1 ⟨v, L, rfl, hown, hL, hb1⟩
    clear hc
    have hrd := (Ow.of_row hown (by simp only [maxLen]; omega)).rd
    cases hk : KOk L with
    | false =>
      have k1 := Lib.hid (impl_KO hk v w1 hrd)
      have k2 := Lib.hid (fun w' (b : Below w1.heap.size w1 w') => spec_KnownOk v L w' (hrd.below b) (by omega))
      rw [hk] at k2
      clear hk hrd hown
      go_wp2_with (first
        | (go_at_call 14; (with_reducible refine k1.out.mono ?_); rintro e w2 ⟨rfl, hb2⟩)
        | (go_at_call 12; (with_reducible refine (k2.out _ hb2).mono ?_); rintro e w3 ⟨rfl, rfl⟩; have n2 := below_call hb1 (Nat.le_refl _) hb2; clear hb2)
        | (go_at_call 14; (with_reducible refine (kz1.out _).mono ?_); rintro e w4 ⟨rfl, hb4⟩; have n4 := below_lit n2 (Nat.le_refl _) hb4; clear hb4)
        | (go_at_call 14; (with_reducible refine (kz3.out _).mono ?_); rintro e w5 ⟨rfl, hb5⟩; have n5 := below_lit n4 (Nat.le_refl _) hb5; clear hb5)
        | (go_at_call 14; (with_reducible refine (kz0.out _).mono ?_); rintro e w6 ⟨rfl, hb6⟩; have n6 := below_lit n5 (Nat.le_refl _) hb6; clear hb6)
        | (go_at_call 29; refine (alive_any _).mono ?_; rintro e w7 ⟨rfl, rfl⟩))
      go_ret
      exact ⟨rfl, n6⟩
    | true =>
      obtain ⟨hL0, hk1⟩ := KOk_take1 hk
      obtain ⟨g, cap, rfl, hg1, hg2, hcap, hcm⟩ := owns_form hown hL0
      have k1 := Lib.hid (impl_KO hk _ w1 hrd)
      have k2 := Lib.hid (fun w' (b : Below w1.heap.size w1 w') => spec_KnownOk _ L w' (hrd.below b) (by omega))
      have k3 := Lib.hid (fun w' (b : Below w1.heap.size w1 w') => impl_KO hk1 (.slice (some ⟨g, 0, none⟩) 1 cap) w' (rd_part (hrd.below b) 0 1 cap (by omega)))
      have hcap1 : (1 : Int) ≤ (cap : Int) := by omega
      have hb11 := Below.refl w1.heap.size w1
      rw [hk] at k2
      clear hk hk1 hrd hown
      go_wp2_with (first
        | (go_at_call 14; (with_reducible refine k1.out.mono ?_); rintro e w2 ⟨rfl, hb2⟩)
        | (go_at_call 12; (with_reducible refine (k2.out _ hb2).mono ?_); rintro e w3 ⟨rfl, rfl⟩)
        | (go_at_call 14; (with_reducible refine (kz1.out _).mono ?_); rintro e w4 ⟨rfl, hb4⟩; have n4 := below_lit hb2 (Nat.le_refl _) hb4; clear hb4)
        | (go_at_call 14; (with_reducible refine (kz3.out _).mono ?_); rintro e w5 ⟨rfl, hb5⟩; have n5 := below_lit n4 (Nat.le_refl _) hb5; clear hb5)
        | (go_at_call 14; (with_reducible refine (kz0.out _).mono ?_); rintro e w6 ⟨rfl, hb6⟩; have n6 := below_lit n5 (Nat.le_refl _) hb6; clear hb6)
        | (go_at_call 14; (with_reducible refine (k3.out _ n6).mono ?_); rintro e w8 ⟨rfl, hb8⟩; have n8 := below_call n6 (Nat.le_refl _) hb8; clear hb8)
        | (go_at_call 29; refine (alive_any _).mono ?_; rintro e w7 ⟨rfl, rfl⟩))
      go_ret
      exact ⟨rfl, below_call hb1 (Nat.le_refl _) n8⟩
end Go.Proofs.Ytfhklaoemfhamaa
