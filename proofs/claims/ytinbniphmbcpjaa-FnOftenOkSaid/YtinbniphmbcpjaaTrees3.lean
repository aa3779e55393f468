/- Numbers of times, drawn; the law FnOftenOk. -/
import Derived.Test.YtinbniphmbcpjaaProg
import Derived.Test.YtinbniphmbcpjaaTrees1
import Derived.Test.YtinbniphmbcpjaaDrawU
import Derived.Test.YtinbniphmbcpjaaAlive
import Derived.Deep.AppendLies
namespace Go.Proofs.Ytinbniphmbcpjaa
open Go.RowKit

theorem owns_set0 {w : World} {B g n cap : Nat} {L : List Int} (h : w.ownsRow B 3 1 (.slice (some ⟨g, 0, none⟩) n cap) n (L.map (Value.int .i64))) (hn : n = L.length) (x : Int) :
    (w.setCell ⟨g, 0, none⟩ (.int .i64 x)).ownsRow B 3 1 (.slice (some ⟨g, 0, none⟩) n cap) (L.set 0 x).length ((L.set 0 x).map (Value.int .i64)) := by
  have := (h.stored 0 (.int .i64 x)).1
  rw [List.map_set, List.length_set, ← hn]
  exact this

set_option maxHeartbeats 1000000 in
theorem often_any (R N : Nat) (n : Int) (hn : 0 ≤ n) (hn2 : n ≤ 1000) (hN : N ≤ 1000000) (w : World) (h : RdU w R N w.heap.size) :
    Calls Try.prog 27 #[.pointer (some ⟨R, 0, none⟩), .int .i64 n] w fun e w' => ∃ (v : Value) (L : List Int), e = .returned v ∧ w'.ownsRow w.heap.size 3 1 v L.length (L.map (Value.int .i64)) ∧ L.length ≤ 10 ∧ RdU w' R (N + 40) w.heap.size ∧ w.grownBy w' (some R) := by
  obtain ⟨B, hB⟩ : ∃ B, B = w.heap.size := ⟨_, rfl⟩
  have hR : R < B := by rw [hB]; exact h.1
  have ha : Below B w (w.alloc (.cells #[] 3)) := by rw [hB]; exact (Below.refl _ _).alloc (Nat.le_refl _) _
  rw [← hB] at h ⊢
  have HG := Lib.hid (grownBy_any (some R) (show Below w.heap.size w (w.alloc (.cells #[] 3)) by rw [← hB]; exact ha))
  have HO := Lib.hid (show (w.alloc (.cells #[] 3)).ownsRow B 3 1 (.slice (some ⟨w.heap.size, 0, none⟩) 0 0) 0 [] by rw [hB]; exact World.ownsRow_made w #[] 0 (Nat.le_refl _) (by simp [maxLen]) (by simp))
  have HR := Lib.hid (h.below ha)
  have HB := Lib.hid hB
  clear h ha hB
  go_enter Try.func27, Try.ntmps27
  go_wp2_with fail
  refine (pick_u R N 9 (by omega) (by omega) (by omega) _ B HR.out).mono ?_
  rintro e w2 ⟨k, rfl, hk0, hk1, hr2, hg2⟩
  have HG2 := Lib.hid (grownBy_then2 HG.out hg2)
  have HO2 := Lib.hid (owns_grown HO.out hg2 hR)
  clear HG HO HR hg2
  go_wp2_with fail
  go_loopw [5, 6] (fun vo vk wr => ∃ (L : List Int) (k : Int), 0 ≤ k ∧ 1 ≤ k + L.length ∧ k + L.length ≤ 9 ∧ vk = .int .i64 k ∧
      wr.ownsRow B 3 1 vo L.length (L.map (Value.int .i64)) ∧ RdU wr R (N + 1 + L.length * 3) B ∧ w.grownBy wr (some R)) (fun _ vk _ => (intOf vk).toNat)
  case atStart => exact ⟨[], 1 + k, by omega, by simp; omega, by simp; omega, rfl, HO2.out, hr2, HG2.out⟩
  case round =>
    clear HO2 hr2 HG2 hk0 hk1
    obtain ⟨L, k, hk0, hk1, hk2, rfl, hown, hr, hg⟩ := hrel
    have hsz : B ≤ wr.heap.size := by rw [HB.out]; exact hg.size
    have HBg := Lib.hid hg
    clear hg
    by_cases hk : 0 < k
    · obtain ⟨a, cap, rfl, _⟩ := Ow.of_row hown (by simp only [maxLen]; omega)
      go_wp2_with fail
      refine (pick_u R (N + 1 + L.length * 3) 10 (by omega) (by omega) (by omega) _ B hr).mono ?_
      rintro e w3 ⟨x, rfl, hx0, hx1, hr3, hg3⟩
      have hown3 := owns_grown hown hg3 hR
      have hsz3 : B ≤ w3.heap.size := Nat.le_trans hsz hg3.size
      have HG3 := Lib.hid (grownBy_then2 HBg.out hg3)
      clear hown hr hg3 HBg
      go_wp2_with fail
      refine (pick_u R (N + 1 + L.length * 3 + 1) 101 (by omega) (by omega) (by omega) _ B hr3).mono ?_
      rintro e w4 ⟨y, rfl, hy0, hy1, hr4, hg4⟩
      have hown4 := owns_grown hown3 hg4 hR
      have hsz4 : B ≤ w4.heap.size := Nat.le_trans hsz3 hg4.size
      have HG4 := Lib.hid (grownBy_then2 HG3.out hg4)
      have hL : L.length < 1000000000 := by omega
      clear hown3 hr3 hg4 HG3 hsz3 hsz
      have hown5 := hown4.alloc (.cells #[.int .i64 0, .int .i64 1, .int .i64 x, .int .i64 y] 3)
      have hb5 : Below B w4 (w4.alloc (.cells #[.int .i64 0, .int .i64 1, .int .i64 x, .int .i64 y] 3)) := (Below.refl _ _).alloc hsz4 _
      have hc0 : (w4.alloc (.cells #[.int .i64 0, .int .i64 1, .int .i64 x, .int .i64 y] 3)).cell? ⟨w4.heap.size, 0, none⟩ = some (.int .i64 0) := by simp
      have hc1 : (w4.alloc (.cells #[.int .i64 0, .int .i64 1, .int .i64 x, .int .i64 y] 3)).cell? ⟨w4.heap.size, 1, none⟩ = some (.int .i64 1) := by simp
      have hc2 : (w4.alloc (.cells #[.int .i64 0, .int .i64 1, .int .i64 x, .int .i64 y] 3)).cell? ⟨w4.heap.size, 2, none⟩ = some (.int .i64 x) := by simp
      have hc3 : (w4.alloc (.cells #[.int .i64 0, .int .i64 1, .int .i64 x, .int .i64 y] 3)).cell? ⟨w4.heap.size, 3, none⟩ = some (.int .i64 y) := by simp
      have hHl : w4.heap.size < (w4.alloc (.cells #[.int .i64 0, .int .i64 1, .int .i64 x, .int .i64 y] 3)).heap.size := by simp
      have hsz5 : B ≤ (w4.alloc (.cells #[.int .i64 0, .int .i64 1, .int .i64 x, .int .i64 y] 3)).heap.size := by simp; omega
      have HG5 := Lib.hid (grownBy_then HG4.out (show Below w.heap.size w4 (w4.alloc (.cells #[.int .i64 0, .int .i64 1, .int .i64 x, .int .i64 y] 3)) by rw [← HB.out]; exact hb5))
      have hr5 := hr4.below hb5
      clear hr4 hown4 HG4 hb5
      go_wp2_with fail
      generalize w4.alloc (.cells #[.int .i64 0, .int .i64 1, .int .i64 x, .int .i64 y] 3) = w5 at *
      obtain ⟨H, hH⟩ : ∃ H, H = w4.heap.size := ⟨_, rfl⟩
      rw [← hH] at hc0 hc1 hc2 hc3 hHl ⊢
      have hHB : B ≤ H := by rw [hH]; exact hsz4
      clear hH
      refine (pick_u R (N + 1 + L.length * 3 + 2) 4 (by omega) (by omega) (by omega) _ B hr5).mono ?_
      rintro e w6 ⟨v, rfl, hv0, hv1, hr6, hg6⟩
      have d0 := (World.cell?_of_block (a := ⟨H, 0, none⟩) (hg6.block H hHl (by intro e; injection e with e; omega))).trans hc0
      have d1 := (World.cell?_of_block (a := ⟨H, 1, none⟩) (hg6.block H hHl (by intro e; injection e with e; omega))).trans hc1
      have d2 := (World.cell?_of_block (a := ⟨H, 2, none⟩) (hg6.block H hHl (by intro e; injection e with e; omega))).trans hc2
      have d3 := (World.cell?_of_block (a := ⟨H, 3, none⟩) (hg6.block H hHl (by intro e; injection e with e; omega))).trans hc3
      have hown6 := owns_grown hown5 hg6 hR
      have hsz6 : B ≤ w6.heap.size := Nat.le_trans hsz5 hg6.size
      have HG6 := Lib.hid (grownBy_then2 HG5.out hg6)
      clear hc0 hc1 hc2 hc3 hHl hown5 hr5 HG5 hg6 hsz5
      have hv : v = 0 ∨ v = 1 ∨ v = 2 ∨ v = 3 := by omega
      rcases hv with rfl | rfl | rfl | rfl
      · go_wp2_with (first | (at_builtin; (refine wpList_append_int _ rfl _ _ rfl B _ L _ hown6 rfl rfl hL hsz6 ?_); intro v2 w7 hown7 hb7))
        go_roundw
        case rel => exact ⟨L ++ [_], k - 1, by omega, by simp; omega, by simp; omega, by go_num, hown7, (hr6.below hb7).more (by simp; omega), grownBy_then HG6.out (by rw [← HB.out]; exact hb7)⟩
        case measure => simp [intOf]; omega
      · go_wp2_with (first | (at_builtin; (refine wpList_append_int _ rfl _ _ rfl B _ L _ hown6 rfl rfl hL hsz6 ?_); intro v2 w7 hown7 hb7))
        go_roundw
        case rel => exact ⟨L ++ [_], k - 1, by omega, by simp; omega, by simp; omega, by go_num, hown7, (hr6.below hb7).more (by simp; omega), grownBy_then HG6.out (by rw [← HB.out]; exact hb7)⟩
        case measure => simp [intOf]; omega
      · go_wp2_with (first | (at_builtin; (refine wpList_append_int _ rfl _ _ rfl B _ L _ hown6 rfl rfl hL hsz6 ?_); intro v2 w7 hown7 hb7))
        go_roundw
        case rel => exact ⟨L ++ [_], k - 1, by omega, by simp; omega, by simp; omega, by go_num, hown7, (hr6.below hb7).more (by simp; omega), grownBy_then HG6.out (by rw [← HB.out]; exact hb7)⟩
        case measure => simp [intOf]; omega
      · go_wp2_with (first | (at_builtin; (refine wpList_append_int _ rfl _ _ rfl B _ L _ hown6 rfl rfl hL hsz6 ?_); intro v2 w7 hown7 hb7))
        go_roundw
        case rel => exact ⟨L ++ [_], k - 1, by omega, by simp; omega, by simp; omega, by go_num, hown7, (hr6.below hb7).more (by simp; omega), grownBy_then HG6.out (by rw [← HB.out]; exact hb7)⟩
        case measure => simp [intOf]; omega
    · obtain rfl : k = 0 := by omega
      clear hk
      obtain ⟨g, cap, rfl, hbg, hlt⟩ := hown.form (by omega)
      have hL1 : 0 < L.length := by omega
      go_wp2_with fail
      refine (odd_u R (N + 1 + L.length * 3) n hn (by omega) (by omega) _ B hr).mono ?_
      rintro e w3 ⟨b, rfl, hr3, hg3⟩
      have HO3 := Lib.hid (owns_grown hown hg3 hR)
      have HG3 := Lib.hid (grownBy_then2 HBg.out hg3)
      have hsz3 : B ≤ w3.heap.size := Nat.le_trans hsz hg3.size
      clear hown hr hg3 HBg hlt hsz
      cases b with
      | false =>
        go_wp2_with fail
        go_ret
        exact ⟨_, L, rfl, HO3.out, by omega, hr3.more (by omega), HG3.out⟩
      | true =>
        go_wp2_with fail
        refine (pick_u R (N + 1 + L.length * 3 + 1) 3 (by omega) (by omega) (by omega) _ B hr3).mono ?_
        rintro e w4 ⟨v, rfl, hv0, hv1, hr4, hg4⟩
        have HO4 := Lib.hid (owns_grown HO3.out hg4 hR)
        have HG4 := Lib.hid (grownBy_then2 HG3.out hg4)
        have c0 := HO4.out.cellAt 0 (by omega)
        rw [ints_getD L 0 hL1] at c0
        have f0 := HO4.out.frozenAt 0
        have s4 : B ≤ w4.heap.size := Nat.le_trans hsz3 hg4.size
        clear HO3 HG3 hr3 hg4 hsz3
        have hv : v = 0 ∨ v = 1 ∨ v = 2 := by omega
        rcases hv with rfl | rfl | rfl
        · go_wp2_with fail
          go_ret
          have ha : Below B w4 (w4.alloc (.cells #[] 3)) := (Below.refl _ _).alloc s4 _
          exact ⟨_, [], rfl, World.ownsRow_made w4 #[] 0 s4 (by simp [maxLen]) (by simp), by simp, (hr4.below ha).more (by omega), grownBy_then HG4.out (by rw [← HB.out]; exact ha)⟩
        · go_wp2_with fail
          go_ret
          have ha : Below B w4 (w4.setCell ⟨g, 0, none⟩ (.int .i64 101)) := (Below.refl _ _).setCell hbg _
          exact ⟨_, L.set 0 101, rfl, owns_set0 HO4.out rfl 101, by simp; omega, (hr4.below ha).more (by omega), grownBy_then HG4.out (by rw [← HB.out]; exact ha)⟩
        · obtain ⟨i0, hi, hz0, hz1, hz2⟩ := info_parts YtinbniphmbcpjaainfoI
          go_wp2_with (first | (at_make; refine wpList_make_full _ rfl _ _ 26 rfl B 3 i0 (.int .i64 0) 1 Try.underlying26 hi hz0 hz1 .i64 .i64 _ _ 10 rfl rfl (by omega) (by omega) (by rw [hz2]; omega) (by unfold maxLen; omega) s4 ?_; intro w6 hown6 hgrow))
          go_ret
          have hbel := grown_below hgrow
          exact ⟨_, List.replicate 10 0, rfl, by simpa [Value.cells, toList_madeCells_one] using hown6, by simp, (hr4.below (hbel.mono s4)).more (by omega), grownBy_then HG4.out (hbel.mono (by rw [← HB.out]; exact s4))⟩

set_option maxHeartbeats 1000000 in
theorem draw_OftenOk (a : Option Addr) (len cap : Nat) (w : World) (h : Code8 w a len cap) :
    Calls Try.prog 19 #[.slice a len cap] w fun e w' => ∃ (v : Value) (L : List Int), e = .returned v ∧ w'.ownsRow w.heap.size 3 1 v L.length (L.map (Value.int .i64)) ∧ L.length ≤ 10 ∧ Below w.heap.size w w' := by
  go_enter Try.func19, Try.ntmps19
  go_wp2_with fail
  refine (open_any a len cap w h).mono ?_
  rintro e w1 ⟨rfl, hr, hb⟩
  go_wp2_with fail
  refine (often_any w.heap.size 0 3 (by omega) (by omega) (by omega) w1 hr.toU).mono ?_
  rintro e w2 ⟨v, L, rfl, hown, hL, _, hg⟩
  go_wp2_with fail
  go_ret
  exact ⟨_, L, rfl, hown.mono hb.size, hL, hb.trans (below_of_grownBy hg hb.size (Nat.le_refl _))⟩

theorem OOk_tail {xs : List Int} (h : OOk xs = true) (h0 : 2 ≤ xs.length) : OOk ((xs.drop 1).take (xs.length - 1)) = true := by
  match xs, h0 with
  | x :: t, h0 =>
    have e : ((x :: t).drop 1).take ((x :: t).length - 1) = t := by simp
    rw [e]
    unfold OOk at h ⊢
    simp only [Bool.and_eq_true, decide_eq_true_eq, List.length_cons] at h h0 ⊢
    refine ⟨by omega, ?_⟩
    have := h.2
    simp [AllB] at this ⊢
    exact this.2
theorem impl_OO {xs : List Int} {b : Bool} (e : OOk xs = b) (v : Value) (w : World) (h : Rd w v xs) :
    Calls Try.prog 15 #[v] w fun e w' => e = .returned (.bool b) ∧ Below w.heap.size w w' := by
  rw [← e]; exact impl_OftenOk v xs w h
theorem OOk_len {xs : List Int} (h : OOk xs = true) : 1 ≤ xs.length := by
  unfold OOk at h
  simp only [Bool.and_eq_true, decide_eq_true_eq] at h
  exact h.1.1

set_option maxHeartbeats 2000000 in
theorem law_FnOftenOk (a0 : Option Addr) (len0 cap0 : Nat) (z0 : List Int) (w : World) (w0 : IsRow .u8 w a0 len0 cap0 z0) :
    Calls Try.prog 8 #[.slice a0 len0 cap0] w fun e w' => e = .returned (.bool true) ∧ Below w.heap.size w w' := by
  have hc := Code8.of_row w0
  clear w0
  have kz0 := Lib.hid (fun w' : World => impl_OO (show OOk [] = false by decide) (.slice (some ⟨w'.heap.size, 0, none⟩) 0 0) (w'.alloc (.cells #[] 3)) (rd_lit w' [] (by decide)))
  have kz1 := Lib.hid (fun w' : World => impl_OO (show OOk [0] = true by decide) (.slice (some ⟨w'.heap.size, 0, none⟩) 1 1) (w'.alloc (.cells #[.int .i64 0] 3)) (rd_lit w' [0] (by decide)))
  by_cases hl : 1048576 < len0
  · clear kz0 kz1
    go_enter Try.func8, Try.ntmps8
    go_wp2_with fail
    go_ret
    exact ⟨rfl, Below.refl _ _⟩
  · go_enter Try.func8, Try.ntmps8
    go_wp2_with fail
    refine (draw_OftenOk _ _ _ _ hc).mono ?_
    rintro e w1 ⟨v, L, rfl, hown, hL, hb1⟩
    clear hc
    have hrd := (Ow.of_row hown (by simp only [maxLen]; omega)).rd
    cases hk : OOk L with
    | false =>
      have k1 := Lib.hid (impl_OO hk v w1 hrd)
      have k2 := Lib.hid (fun w' (b : Below w1.heap.size w1 w') => spec_OftenOk v L w' (hrd.below b))
      rw [hk] at k2
      clear hk hrd hown
      go_wp2_with (first
        | (go_at_call 15; (with_reducible refine k1.out.mono ?_); rintro e w2 ⟨rfl, hb2⟩)
        | (go_at_call 13; (with_reducible refine (k2.out _ hb2).mono ?_); rintro e w3 ⟨rfl, rfl⟩; have n2 := below_call hb1 (Nat.le_refl _) hb2; clear hb2)
        | (go_at_call 15; (with_reducible refine (kz1.out _).mono ?_); rintro e w5 ⟨rfl, hb5⟩; have n5 := below_lit n2 (Nat.le_refl _) hb5; clear hb5)
        | (go_at_call 15; (with_reducible refine (kz0.out _).mono ?_); rintro e w6 ⟨rfl, hb6⟩; have n6 := below_lit n5 (Nat.le_refl _) hb6; clear hb6)
        | (go_at_call 18; refine (alive_any _).mono ?_; rintro e w7 ⟨rfl, rfl⟩))
      go_ret
      exact ⟨rfl, n6⟩
    | true =>
      have hL0 := OOk_len hk
      obtain ⟨g, cap, rfl, hg1, hg2, hcap, hcm⟩ := owns_form hown hL0
      by_cases hL2 : 2 ≤ L.length
      · have hk1 := OOk_tail hk hL2
        obtain ⟨m, hm⟩ : ∃ m, L.length = m + 2 := ⟨L.length - 2, by omega⟩
        rw [show L.length - 1 = m + 1 by omega] at hk1
        have hcap1 : (1 : Int) ≤ (cap : Int) := by omega
        have hc1 : ¬ cap = 1 := by omega
        rw [hm] at hrd
        have k1 := Lib.hid (impl_OO hk _ w1 hrd)
        have k2 := Lib.hid (fun w' (b : Below w1.heap.size w1 w') => spec_OftenOk _ L w' (hrd.below b))
        have k3 := Lib.hid (fun w' (b : Below w1.heap.size w1 w') => impl_OO hk1 (.slice (some ⟨g, 1, none⟩) (m + 1) (cap - 1)) w' (rd_part (hrd.below b) 1 (m + 1) (cap - 1) (by omega)))
        rw [hk] at k2
        rw [hm]
        clear hk hk1 hrd hown
        go_wp2_with (first
          | (go_at_call 15; (with_reducible refine k1.out.mono ?_); rintro e w2 ⟨rfl, hb2⟩)
          | (go_at_call 13; (with_reducible refine (k2.out _ hb2).mono ?_); rintro e w3 ⟨rfl, rfl⟩)
          | (go_at_call 15; (with_reducible refine (kz1.out _).mono ?_); rintro e w5 ⟨rfl, hb5⟩; have n5 := below_lit hb2 (Nat.le_refl _) hb5; clear hb5)
          | (go_at_call 15; (with_reducible refine (kz0.out _).mono ?_); rintro e w6 ⟨rfl, hb6⟩; have n6 := below_lit n5 (Nat.le_refl _) hb6; clear hb6)
          | (go_at_call 15; (with_reducible refine (k3.out _ n6).mono ?_); rintro e w8 ⟨rfl, hb8⟩; have n8 := below_call n6 (Nat.le_refl _) hb8; clear hb8)
          | (go_at_call 18; refine (alive_any _).mono ?_; rintro e w7 ⟨rfl, rfl⟩))
        go_ret
        exact ⟨rfl, below_call hb1 (Nat.le_refl _) n8⟩
      · have hL1 : L.length = 1 := by omega
        rw [hL1] at hrd
        have k1 := Lib.hid (impl_OO hk _ w1 hrd)
        have k2 := Lib.hid (fun w' (b : Below w1.heap.size w1 w') => spec_OftenOk _ L w' (hrd.below b))
        rw [hk] at k2
        rw [hL1]
        clear hk hrd hown hL1 hL2 hL0
        go_wp2_with (first
          | (go_at_call 15; (with_reducible refine k1.out.mono ?_); rintro e w2 ⟨rfl, hb2⟩)
          | (go_at_call 13; (with_reducible refine (k2.out _ hb2).mono ?_); rintro e w3 ⟨rfl, rfl⟩)
          | (go_at_call 15; (with_reducible refine (kz1.out _).mono ?_); rintro e w5 ⟨rfl, hb5⟩; have n5 := below_lit hb2 (Nat.le_refl _) hb5; clear hb5)
          | (go_at_call 15; (with_reducible refine (kz0.out _).mono ?_); rintro e w6 ⟨rfl, hb6⟩; have n6 := below_lit n5 (Nat.le_refl _) hb6; clear hb6)
          | (go_at_call 18; refine (alive_any _).mono ?_; rintro e w7 ⟨rfl, rfl⟩))
        go_ret
        exact ⟨rfl, below_call hb1 (Nat.le_refl _) n6⟩
end Go.Proofs.Ytinbniphmbcpjaa
