/- Prices, drawn; the law FnPricesOk. -/
import Derived.Test.YtpdijlpdkdhgpaaProg
import Derived.Test.YtpdijlpdkdhgpaaPrices1
import Derived.Test.YtpdijlpdkdhgpaaDrawU
import Derived.Test.YtpdijlpdkdhgpaaAlive
import Derived.Deep.AppendLies
namespace Go.Proofs.Ytpdijlpdkdhgpaa
open Go.RowKit

set_option maxHeartbeats 1000000 in
theorem prices_any (R N : Nat) (n : Int) (hn : 0 ≤ n) (hn2 : n ≤ 1000) (hN : N ≤ 1000000) (w : World) (h : RdU w R N w.heap.size) :
    Calls Try.prog 31 #[.pointer (some ⟨R, 0, none⟩), .int .i64 n] w fun e w' => ∃ (v : Value) (L : List Int), e = .returned v ∧ w'.ownsRow w.heap.size 3 1 v L.length (L.map (Value.int .i64)) ∧ L.length ≤ 10 ∧ w.grownBy w' (some R) := by
  obtain ⟨B, hB⟩ : ∃ B, B = w.heap.size := ⟨_, rfl⟩
  have hR : R < B := by rw [hB]; exact h.1
  have ha : Below B w (w.alloc (.cells #[] 3)) := by rw [hB]; exact (Below.refl _ _).alloc (Nat.le_refl _) _
  rw [← hB] at h ⊢
  have HG := Lib.hid (grownBy_any (some R) (show Below w.heap.size w (w.alloc (.cells #[] 3)) by rw [← hB]; exact ha))
  have HO := Lib.hid (show (w.alloc (.cells #[] 3)).ownsRow B 3 1 (.slice (some ⟨w.heap.size, 0, none⟩) 0 0) 0 [] by rw [hB]; exact World.ownsRow_made w #[] 0 (Nat.le_refl _) (by simp [maxLen]) (by simp))
  have HR := Lib.hid (h.below ha)
  have HB := Lib.hid hB
  clear h ha hB
  go_enter Try.func31, Try.ntmps31
  go_wp2_with fail
  refine (pick_u R N 3 (by omega) (by omega) (by omega) _ B HR.out).mono ?_
  rintro e w1 ⟨kind, rfl, hl0, hl1, hr1, hg1⟩
  have HG1 := Lib.hid (grownBy_then2 HG.out hg1)
  have HO1 := Lib.hid (owns_grown HO.out hg1 hR)
  clear HG HO HR hg1
  go_wp2_with fail
  refine (pick_u R (N + 1) 10 (by omega) (by omega) (by omega) _ B hr1).mono ?_
  rintro e w2 ⟨k, rfl, hk0, hk1, hr2, hg2⟩
  have HG2 := Lib.hid (grownBy_then2 HG1.out hg2)
  have HO2 := Lib.hid (owns_grown HO1.out hg2 hR)
  clear HG1 HO1 hr1 hg2
  go_wp2_with fail
  go_loopw [5, 7] (fun vo vk wr => ∃ (L : List Int) (k : Int), 0 ≤ k ∧ k + L.length ≤ 9 ∧ vk = .int .i64 k ∧
      wr.ownsRow B 3 1 vo L.length (L.map (Value.int .i64)) ∧ RdU wr R (N + 2 + L.length * 2) B ∧ w.grownBy wr (some R)) (fun _ vk _ => (intOf vk).toNat)
  case atStart => exact ⟨[], k, by omega, by simp; omega, rfl, HO2.out, hr2, HG2.out⟩
  case round =>
    clear HO2 hr2 HG2 hk0 hk1
    obtain ⟨L, k, hk0, hk1, rfl, hown, hr, hg⟩ := hrel
    have hsz : B ≤ wr.heap.size := by rw [HB.out]; exact hg.size
    have HBg := Lib.hid hg
    clear hg
    obtain ⟨a, cap, rfl, _⟩ := Ow.of_row hown (by simp only [maxLen]; omega)
    by_cases hk : 0 < k
    · go_wp2_with fail
      refine (pick_u R (N + 2 + L.length * 2) 10 (by omega) (by omega) (by omega) _ B hr).mono ?_
      rintro e w3 ⟨x, rfl, hx0, hx1, hr3, hg3⟩
      have hown3 := owns_grown hown hg3 hR
      have hsz3 : B ≤ w3.heap.size := Nat.le_trans hsz hg3.size
      have HG3 := Lib.hid (grownBy_then2 HBg.out hg3)
      clear hown hr hg3 HBg
      go_wp2_with fail
      refine (pick_u R (N + 2 + L.length * 2 + 1) 51 (by omega) (by omega) (by omega) _ B hr3).mono ?_
      rintro e w4 ⟨y, rfl, hy0, hy1, hr4, hg4⟩
      have hown4 := owns_grown hown3 hg4 hR
      have hsz4 : B ≤ w4.heap.size := Nat.le_trans hsz3 hg4.size
      have HG4 := Lib.hid (grownBy_then2 HG3.out hg4)
      have hL : L.length < 1000000000 := by omega
      clear hown3 hr3 hg4 HG3 hsz3 hsz
      have hown5 := hown4.alloc (.cells #[.int .i64 ((L.length : Int) + 1), .int .i64 x, .int .i64 y] 3)
      have hsz5 : B ≤ (w4.alloc (.cells #[.int .i64 ((L.length : Int) + 1), .int .i64 x, .int .i64 y] 3)).heap.size := by simp; omega
      have hb5 : Below B w4 (w4.alloc (.cells #[.int .i64 ((L.length : Int) + 1), .int .i64 x, .int .i64 y] 3)) := (Below.refl _ _).alloc hsz4 _
      have hs5 : (w4.alloc (.cells #[.int .i64 ((L.length : Int) + 1), .int .i64 x, .int .i64 y] 3)).heap.size = w4.heap.size + 1 := by simp
      have hv : kind = 0 ∨ kind = 1 ∨ kind = 2 := by omega
      rcases hv with rfl | rfl | rfl
      · go_wp2_with (first | (at_builtin; (refine wpList_append_int _ rfl _ _ rfl B _ L _ hown5 rfl (by rw [hs5]; rfl) hL hsz5 ?_); intro v2 w6 hown6 hb6))
        go_roundw
        case rel => exact ⟨L ++ [_], k - 1, by omega, by simp; omega, by go_num, hown6, ((hr4.below hb5).below hb6).more (by simp; omega), grownBy_then HG4.out (by rw [← HB.out]; exact hb5.trans hb6)⟩
        case measure => simp [intOf]; omega
      · go_wp2_with (first | (at_builtin; (refine wpList_append_int _ rfl _ _ rfl B _ L _ hown5 rfl (by rw [hs5]; rfl) hL hsz5 ?_); intro v2 w6 hown6 hb6))
        go_roundw
        case rel => exact ⟨L ++ [_], k - 1, by omega, by simp; omega, by go_num, hown6, ((hr4.below hb5).below hb6).more (by simp; omega), grownBy_then HG4.out (by rw [← HB.out]; exact hb5.trans hb6)⟩
        case measure => simp [intOf]; omega
      · go_wp2_with (first | (at_builtin; (refine wpList_append_int _ rfl _ _ rfl B _ L _ hown5 rfl (by rw [hs5]; rfl) hL hsz5 ?_); intro v2 w6 hown6 hb6))
        go_roundw
        case rel => exact ⟨L ++ [_], k - 1, by omega, by simp; omega, by go_num, hown6, ((hr4.below hb5).below hb6).more (by simp; omega), grownBy_then HG4.out (by rw [← HB.out]; exact hb5.trans hb6)⟩
        case measure => simp [intOf]; omega
    · obtain rfl : k = 0 := by omega
      clear hk
      have hL : L.length < 1000000000 := by omega
      go_wp2_with fail
      refine (odd_u R (N + 2 + L.length * 2) n hn (by omega) (by omega) _ B hr).mono ?_
      rintro e w3 ⟨b, rfl, hr3, hg3⟩
      have HO3 := Lib.hid (owns_grown hown hg3 hR)
      have HG3 := Lib.hid (grownBy_then2 HBg.out hg3)
      have hsz3 : B ≤ w3.heap.size := Nat.le_trans hsz hg3.size
      clear hown hr hg3 HBg hsz
      cases b with
      | false =>
        go_wp2_with fail
        go_ret
        exact ⟨_, L, rfl, HO3.out, by omega, HG3.out⟩
      | true =>
        go_wp2_with fail
        refine (pick_u R (N + 2 + L.length * 2 + 1) 2 (by omega) (by omega) (by omega) _ B hr3).mono ?_
        rintro e w4 ⟨v, rfl, hv0, hv1, hr4, hg4⟩
        have hown4 := owns_grown HO3.out hg4 hR
        have HG4 := Lib.hid (grownBy_then2 HG3.out hg4)
        have hsz4 : B ≤ w4.heap.size := Nat.le_trans hsz3 hg4.size
        clear HO3 HG3 hr3 hg4 hsz3
        have hv : v = 0 ∨ v = 1 := by omega
        rcases hv with rfl | rfl
        · go_wp2_with (first | (at_builtin; (refine wpList_append_int _ rfl _ _ rfl B _ L _ hown4 rfl rfl hL hsz4 ?_); intro v2 w6 hown6 hb6))
          go_ret
          exact ⟨_, L ++ [51], rfl, hown6, by simp; omega, grownBy_then HG4.out (by rw [← HB.out]; exact hb6)⟩
        · obtain ⟨i0, hi, hz0, hz1, hz2⟩ := info_parts YtpdijlpdkdhgpaainfoI
          go_wp2_with (first | (at_make; refine wpList_make_full _ rfl _ _ 22 rfl B 3 i0 (.int .i64 0) 1 Try.underlying22 hi hz0 hz1 .i64 .i64 _ _ 10 rfl rfl (by omega) (by omega) (by rw [hz2]; omega) (by unfold maxLen; omega) hsz4 ?_; intro w6 hown6 hgrow))
          go_ret
          have hbel := grown_below hgrow
          exact ⟨_, List.replicate 10 0, rfl, by simpa [Value.cells, toList_madeCells_one] using hown6, by simp, grownBy_then HG4.out (hbel.mono (by rw [← HB.out]; exact hsz4))⟩

set_option maxHeartbeats 1000000 in
theorem draw_prices (n : Int) (_hn : 0 ≤ n) (_hn2 : n ≤ 1000) (a : Option Addr) (len cap : Nat) (w : World) (h : Code8 w a len cap) :
    Calls Try.prog 20 #[.slice a len cap] w fun e w' => ∃ (v : Value) (L : List Int), e = .returned v ∧ w'.ownsRow w.heap.size 3 1 v L.length (L.map (Value.int .i64)) ∧ L.length ≤ 10 ∧ Below w.heap.size w w' := by
  go_enter Try.func20, Try.ntmps20
  go_wp2_with fail
  refine (open_any a len cap w h).mono ?_
  rintro e w1 ⟨rfl, hr, hb⟩
  go_wp2_with fail
  refine (prices_any w.heap.size 0 3 (by omega) (by omega) (by omega) w1 hr.toU).mono ?_
  rintro e w2 ⟨v, L, rfl, hown, hL, hg⟩
  go_wp2_with fail
  go_ret
  exact ⟨_, L, rfl, hown.mono hb.size, hL, hb.trans (below_of_grownBy hg hb.size (Nat.le_refl _))⟩

theorem POk_tail {xs : List Int} (h : POk xs = true) (h0 : 0 < xs.length) : POk ((xs.drop 1).take (xs.length - 1)) = true := by
  match xs, h0 with
  | x :: t, _ =>
    have e : ((x :: t).drop 1).take ((x :: t).length - 1) = t := by simp
    rw [e]
    unfold POk at h ⊢
    simp only [Bool.and_eq_true, decide_eq_true_eq, List.length_cons] at h ⊢
    refine ⟨by omega, ?_⟩
    have := h.2
    simp [AllB] at this ⊢
    exact this.2
theorem impl_PO {xs : List Int} {b : Bool} (e : POk xs = b) (v : Value) (w : World) (h : Rd w v xs) :
    Calls Try.prog 12 #[v] w fun e w' => e = .returned (.bool b) ∧ Below w.heap.size w w' := by
  rw [← e]; exact impl_PricesOk v xs w h

set_option maxHeartbeats 2000000 in
theorem law_FnPricesOk (a0 : Option Addr) (len0 cap0 : Nat) (z0 : List Int) (w : World) (w0 : IsRow .u8 w a0 len0 cap0 z0) :
    Calls Try.prog 7 #[.slice a0 len0 cap0] w fun e w' => e = .returned (.bool true) ∧ Below w.heap.size w w' := by
  have hc := Code8.of_row w0
  clear w0
  have kz0 := Lib.hid (fun w' : World => impl_PO (show POk [] = true by decide) (.slice (some ⟨w'.heap.size, 0, none⟩) 0 0) (w'.alloc (.cells #[] 3)) (rd_lit w' [] (by decide)))
  by_cases hl : 1048576 < len0
  · clear kz0
    go_enter Try.func7, Try.ntmps7
    go_wp2_with fail
    go_ret
    exact ⟨rfl, Below.refl _ _⟩
  · go_enter Try.func7, Try.ntmps7
    go_wp2_with fail
    refine (draw_prices 3 (by omega) (by omega) _ _ _ _ hc).mono ?_
    rintro e w1 ⟨v, L, rfl, hown, hL, hb1⟩
    clear hc
    have hrd := (Ow.of_row hown (by simp only [maxLen]; omega)).rd
    cases hk : POk L with
    | false =>
      have k1 := Lib.hid (impl_PO hk v w1 hrd)
      have k2 := Lib.hid (fun w' (b : Below w1.heap.size w1 w') => spec_PricesOk v L w' (hrd.below b))
      rw [hk] at k2
      clear hk hrd hown
      go_wp2_with (first
        | (go_at_call 12; (with_reducible refine k1.out.mono ?_); rintro e w2 ⟨rfl, hb2⟩)
        | (go_at_call 10; (with_reducible refine (k2.out _ hb2).mono ?_); rintro e w3 ⟨rfl, rfl⟩; have n2 := below_call hb1 (Nat.le_refl _) hb2; clear hb2)
        | (go_at_call 12; (with_reducible refine (kz0.out _).mono ?_); rintro e w6 ⟨rfl, hb6⟩; have n6 := below_lit n2 (Nat.le_refl _) hb6; clear hb6)
        | (go_at_call 21; refine (alive_any _).mono ?_; rintro e w7 ⟨rfl, rfl⟩))
      go_ret
      exact ⟨rfl, n6⟩
    | true =>
      by_cases hL0 : 0 < L.length
      · have hk1 := POk_tail hk hL0
        obtain ⟨g, cap, rfl, hg1, hg2, hcap, hcm⟩ := owns_form hown hL0
        by_cases hc1 : cap = 1
        · have hL1 : L.length = 1 := by omega
          subst hc1
          rw [hL1] at hrd
          have k1 := Lib.hid (impl_PO hk _ w1 hrd)
          have k2 := Lib.hid (fun w' (b : Below w1.heap.size w1 w') => spec_PricesOk _ L w' (hrd.below b))
          have k3 := Lib.hid (fun w' (b : Below w1.heap.size w1 w') => impl_PO (show POk [] = true by decide) (.slice (some ⟨g, 0, none⟩) 0 0) w' (Rd.nil _ _ _))
          rw [hk] at k2
          rw [hL1]
          clear hk hk1 hrd hown hL1
          go_wp2_with (first
            | (go_at_call 12; (with_reducible refine k1.out.mono ?_); rintro e w2 ⟨rfl, hb2⟩)
            | (go_at_call 10; (with_reducible refine (k2.out _ hb2).mono ?_); rintro e w3 ⟨rfl, rfl⟩)
            | (go_at_call 12; (with_reducible refine (kz0.out _).mono ?_); rintro e w6 ⟨rfl, hb6⟩; have n6 := below_lit hb2 (Nat.le_refl _) hb6; clear hb6)
            | (go_at_call 12; (with_reducible refine (k3.out _ n6).mono ?_); rintro e w8 ⟨rfl, hb8⟩; have n8 := below_call n6 (Nat.le_refl _) hb8; clear hb8)
            | (go_at_call 21; refine (alive_any _).mono ?_; rintro e w7 ⟨rfl, rfl⟩))
          go_ret
          exact ⟨rfl, below_call hb1 (Nat.le_refl _) n8⟩
        · obtain ⟨m, hm⟩ : ∃ m, L.length = m + 1 := ⟨L.length - 1, by omega⟩
          rw [show L.length - 1 = m by omega] at hk1
          have hcap1 : (1 : Int) ≤ (cap : Int) := by omega
          rw [hm] at hrd
          have k1 := Lib.hid (impl_PO hk _ w1 hrd)
          have k2 := Lib.hid (fun w' (b : Below w1.heap.size w1 w') => spec_PricesOk _ L w' (hrd.below b))
          have k3 := Lib.hid (fun w' (b : Below w1.heap.size w1 w') => impl_PO hk1 (.slice (some ⟨g, 1, none⟩) m (cap - 1)) w' (rd_part (hrd.below b) 1 m (cap - 1) (by omega)))
          rw [hk] at k2
          rw [hm]
          clear hk hk1 hrd hown
          go_wp2_with (first
            | (go_at_call 12; (with_reducible refine k1.out.mono ?_); rintro e w2 ⟨rfl, hb2⟩)
            | (go_at_call 10; (with_reducible refine (k2.out _ hb2).mono ?_); rintro e w3 ⟨rfl, rfl⟩)
            | (go_at_call 12; (with_reducible refine (kz0.out _).mono ?_); rintro e w6 ⟨rfl, hb6⟩; have n6 := below_lit hb2 (Nat.le_refl _) hb6; clear hb6)
            | (go_at_call 12; (with_reducible refine (k3.out _ n6).mono ?_); rintro e w8 ⟨rfl, hb8⟩; have n8 := below_call n6 (Nat.le_refl _) hb8; clear hb8)
            | (go_at_call 21; refine (alive_any _).mono ?_; rintro e w7 ⟨rfl, rfl⟩))
          go_ret
          exact ⟨rfl, below_call hb1 (Nat.le_refl _) n8⟩
      · have hl0 : L = [] := List.eq_nil_of_length_eq_zero (by omega)
        obtain ⟨a, cap, hv, _⟩ := Ow.of_row hown (by simp only [maxLen]; omega)
        subst hl0
        subst hv
        have k1 := Lib.hid (impl_PO hk _ w1 hrd)
        have k2 := Lib.hid (fun w' (b : Below w1.heap.size w1 w') => spec_PricesOk _ _ w' (hrd.below b))
        rw [hk] at k2
        clear hk hrd hown
        simp only [List.length_nil] at k1 k2 ⊢
        go_wp2_with (first
          | (go_at_call 12; (with_reducible refine k1.out.mono ?_); rintro e w2 ⟨rfl, hb2⟩)
          | (go_at_call 10; (with_reducible refine (k2.out _ hb2).mono ?_); rintro e w3 ⟨rfl, rfl⟩)
          | (go_at_call 12; (with_reducible refine (kz0.out _).mono ?_); rintro e w6 ⟨rfl, hb6⟩; have n6 := below_lit hb2 (Nat.le_refl _) hb6; clear hb6)
          | (go_at_call 21; refine (alive_any _).mono ?_; rintro e w7 ⟨rfl, rfl⟩))
        go_ret
        exact ⟨rfl, below_call hb1 (Nat.le_refl _) n6⟩
end Go.Proofs.Ytpdijlpdkdhgpaa
