/- Numbers of times, drawn. -/
import Derived.Test.YtanhdnbjepjhlaaProg
import Derived.Test.YtanhdnbjepjhlaaBase
import Derived.Test.YtanhdnbjepjhlaaDrawU
import Derived.Deep.AppendLies
namespace Go.Proofs.Ytanhdnbjepjhlaa
open Go.RowKit

theorem owns_set0 {w : World} {B g n cap : Nat} {L : List Int} (h : w.ownsRow B 3 1 (.slice (some ⟨g, 0, none⟩) n cap) n (L.map (Value.int .i64))) (hn : n = L.length) (x : Int) :
    (w.setCell ⟨g, 0, none⟩ (.int .i64 x)).ownsRow B 3 1 (.slice (some ⟨g, 0, none⟩) n cap) (L.set 0 x).length ((L.set 0 x).map (Value.int .i64)) := by
  have := (h.stored 0 (.int .i64 x)).1
  rw [List.map_set, List.length_set, ← hn]
  exact this

set_option maxHeartbeats 1000000 in
theorem often_any (R N : Nat) (n : Int) (hn : 0 ≤ n) (hn2 : n ≤ 1000) (hN : N ≤ 1000000) (w : World) (h : RdU w R N w.heap.size) :
    Calls Try.prog 12 #[.pointer (some ⟨R, 0, none⟩), .int .i64 n] w fun e w' => ∃ (v : Value) (L : List Int), e = .returned v ∧ w'.ownsRow w.heap.size 3 1 v L.length (L.map (Value.int .i64)) ∧ L.length ≤ 10 ∧ RdU w' R (N + 40) w.heap.size ∧ w.grownBy w' (some R) := by
  obtain ⟨B, hB⟩ : ∃ B, B = w.heap.size := ⟨_, rfl⟩
  have hR : R < B := by rw [hB]; exact h.1
  have ha : Below B w (w.alloc (.cells #[] 3)) := by rw [hB]; exact (Below.refl _ _).alloc (Nat.le_refl _) _
  rw [← hB] at h ⊢
  have HG := Lib.hid (grownBy_any (some R) (show Below w.heap.size w (w.alloc (.cells #[] 3)) by rw [← hB]; exact ha))
  have HO := Lib.hid (show (w.alloc (.cells #[] 3)).ownsRow B 3 1 (.slice (some ⟨w.heap.size, 0, none⟩) 0 0) 0 [] by rw [hB]; exact World.ownsRow_made w #[] 0 (Nat.le_refl _) (by simp [maxLen]) (by simp))
  have HR := Lib.hid (h.below ha)
  have HB := Lib.hid hB
  clear h ha hB
  go_enter Try.func12, Try.ntmps12
  go_wp2_with fail
  refine (pick_u R N 9 (by omega) (by omega) (by omega) _ B HR.out).mono ?_
  rintro e w2 ⟨k, rfl, hk0, hk1, hr2, hg2⟩
  have HG2 := Lib.hid (grownBy_then2 HG.out hg2)
  have HO2 := Lib.hid (owns_grown HO.out hg2 hR)
  clear HG HO HR hg2
  go_wp2_with fail
  go_loopw [5, 6] (fun vo vk wr => ∃ (L : List Int) (k : Int), 0 ≤ k ∧ 1 ≤ k + L.length ∧ k + L.length ≤ 9 ∧ vk = .int .i64 k ∧
      wr.ownsRow B 3 1 vo L.length (L.map (Value.int .i64)) ∧ RdU wr R (N + 1 + L.length * 3) B ∧ w.grownBy wr (some R)) (fun _ vk _ => (intOf vk).toNat)
  case atStart => exact ⟨[], 1 + k, by omega, by simp; omega, by simp; omega, rfl, HO2.out, hr2, HG2.out⟩
  case round =>
    clear HO2 hr2 HG2 hk0 hk1
    obtain ⟨L, k, hk0, hk1, hk2, rfl, hown, hr, hg⟩ := hrel
    have hsz : B ≤ wr.heap.size := by rw [HB.out]; exact hg.size
    have HBg := Lib.hid hg
    clear hg
    by_cases hk : 0 < k
    · obtain ⟨a, cap, rfl, _⟩ := Ow.of_row hown (by simp only [maxLen]; omega)
      go_wp2_with fail
      refine (pick_u R (N + 1 + L.length * 3) 10 (by omega) (by omega) (by omega) _ B hr).mono ?_
      rintro e w3 ⟨x, rfl, hx0, hx1, hr3, hg3⟩
      have hown3 := owns_grown hown hg3 hR
      have hsz3 : B ≤ w3.heap.size := Nat.le_trans hsz hg3.size
      have HG3 := Lib.hid (grownBy_then2 HBg.out hg3)
      clear hown hr hg3 HBg
      go_wp2_with fail
      refine (pick_u R (N + 1 + L.length * 3 + 1) 101 (by omega) (by omega) (by omega) _ B hr3).mono ?_
      rintro e w4 ⟨y, rfl, hy0, hy1, hr4, hg4⟩
      have hown4 := owns_grown hown3 hg4 hR
      have hsz4 : B ≤ w4.heap.size := Nat.le_trans hsz3 hg4.size
      have HG4 := Lib.hid (grownBy_then2 HG3.out hg4)
      have hL : L.length < 1000000000 := by omega
      clear hown3 hr3 hg4 HG3 hsz3 hsz
      have hown5 := hown4.alloc (.cells #[.int .i64 0, .int .i64 1, .int .i64 x, .int .i64 y] 3)
      have hb5 : Below B w4 (w4.alloc (.cells #[.int .i64 0, .int .i64 1, .int .i64 x, .int .i64 y] 3)) := (Below.refl _ _).alloc hsz4 _
      have hc0 : (w4.alloc (.cells #[.int .i64 0, .int .i64 1, .int .i64 x, .int .i64 y] 3)).cell? ⟨w4.heap.size, 0, none⟩ = some (.int .i64 0) := by simp
      have hc1 : (w4.alloc (.cells #[.int .i64 0, .int .i64 1, .int .i64 x, .int .i64 y] 3)).cell? ⟨w4.heap.size, 1, none⟩ = some (.int .i64 1) := by simp
      have hc2 : (w4.alloc (.cells #[.int .i64 0, .int .i64 1, .int .i64 x, .int .i64 y] 3)).cell? ⟨w4.heap.size, 2, none⟩ = some (.int .i64 x) := by simp
      have hc3 : (w4.alloc (.cells #[.int .i64 0, .int .i64 1, .int .i64 x, .int .i64 y] 3)).cell? ⟨w4.heap.size, 3, none⟩ = some (.int .i64 y) := by simp
      have hHl : w4.heap.size < (w4.alloc (.cells #[.int .i64 0, .int .i64 1, .int .i64 x, .int .i64 y] 3)).heap.size := by simp
      have hsz5 : B ≤ (w4.alloc (.cells #[.int .i64 0, .int .i64 1, .int .i64 x, .int .i64 y] 3)).heap.size := by simp; omega
      have HG5 := Lib.hid (grownBy_then HG4.out (show Below w.heap.size w4 (w4.alloc (.cells #[.int .i64 0, .int .i64 1, .int .i64 x, .int .i64 y] 3)) by rw [← HB.out]; exact hb5))
      have hr5 := hr4.below hb5
      clear hr4 hown4 HG4 hb5
      go_wp2_with fail
      generalize w4.alloc (.cells #[.int .i64 0, .int .i64 1, .int .i64 x, .int .i64 y] 3) = w5 at *
      obtain ⟨H, hH⟩ : ∃ H, H = w4.heap.size := ⟨_, rfl⟩
      rw [← hH] at hc0 hc1 hc2 hc3 hHl ⊢
      have hHB : B ≤ H := by rw [hH]; exact hsz4
      clear hH
      refine (pick_u R (N + 1 + L.length * 3 + 2) 4 (by omega) (by omega) (by omega) _ B hr5).mono ?_
      rintro e w6 ⟨v, rfl, hv0, hv1, hr6, hg6⟩
      have d0 := (World.cell?_of_block (a := ⟨H, 0, none⟩) (hg6.block H hHl (by intro e; injection e with e; omega))).trans hc0
      have d1 := (World.cell?_of_block (a := ⟨H, 1, none⟩) (hg6.block H hHl (by intro e; injection e with e; omega))).trans hc1
      have d2 := (World.cell?_of_block (a := ⟨H, 2, none⟩) (hg6.block H hHl (by intro e; injection e with e; omega))).trans hc2
      have d3 := (World.cell?_of_block (a := ⟨H, 3, none⟩) (hg6.block H hHl (by intro e; injection e with e; omega))).trans hc3
      have hown6 := owns_grown hown5 hg6 hR
      have hsz6 : B ≤ w6.heap.size := Nat.le_trans hsz5 hg6.size
      have HG6 := Lib.hid (grownBy_then2 HG5.out hg6)
      clear hc0 hc1 hc2 hc3 hHl hown5 hr5 HG5 hg6 hsz5
      have hv : v = 0 ∨ v = 1 ∨ v = 2 ∨ v = 3 := by omega
      rcases hv with rfl | rfl | rfl | rfl
      · go_wp2_with (first | (at_builtin; (refine wpList_append_int _ rfl _ _ rfl B _ L _ hown6 rfl rfl hL hsz6 ?_); intro v2 w7 hown7 hb7))
        go_roundw
        case rel => exact ⟨L ++ [_], k - 1, by omega, by simp; omega, by simp; omega, by go_num, hown7, (hr6.below hb7).more (by simp; omega), grownBy_then HG6.out (by rw [← HB.out]; exact hb7)⟩
        case measure => simp [intOf]; omega
      · go_wp2_with (first | (at_builtin; (refine wpList_append_int _ rfl _ _ rfl B _ L _ hown6 rfl rfl hL hsz6 ?_); intro v2 w7 hown7 hb7))
        go_roundw
        case rel => exact ⟨L ++ [_], k - 1, by omega, by simp; omega, by simp; omega, by go_num, hown7, (hr6.below hb7).more (by simp; omega), grownBy_then HG6.out (by rw [← HB.out]; exact hb7)⟩
        case measure => simp [intOf]; omega
      · go_wp2_with (first | (at_builtin; (refine wpList_append_int _ rfl _ _ rfl B _ L _ hown6 rfl rfl hL hsz6 ?_); intro v2 w7 hown7 hb7))
        go_roundw
        case rel => exact ⟨L ++ [_], k - 1, by omega, by simp; omega, by simp; omega, by go_num, hown7, (hr6.below hb7).more (by simp; omega), grownBy_then HG6.out (by rw [← HB.out]; exact hb7)⟩
        case measure => simp [intOf]; omega
      · go_wp2_with (first | (at_builtin; (refine wpList_append_int _ rfl _ _ rfl B _ L _ hown6 rfl rfl hL hsz6 ?_); intro v2 w7 hown7 hb7))
        go_roundw
        case rel => exact ⟨L ++ [_], k - 1, by omega, by simp; omega, by simp; omega, by go_num, hown7, (hr6.below hb7).more (by simp; omega), grownBy_then HG6.out (by rw [← HB.out]; exact hb7)⟩
        case measure => simp [intOf]; omega
    · obtain rfl : k = 0 := by omega
      clear hk
      obtain ⟨g, cap, rfl, hbg, hlt⟩ := hown.form (by omega)
      have hL1 : 0 < L.length := by omega
      go_wp2_with fail
      refine (odd_u R (N + 1 + L.length * 3) n hn (by omega) (by omega) _ B hr).mono ?_
      rintro e w3 ⟨b, rfl, hr3, hg3⟩
      have HO3 := Lib.hid (owns_grown hown hg3 hR)
      have HG3 := Lib.hid (grownBy_then2 HBg.out hg3)
      have hsz3 : B ≤ w3.heap.size := Nat.le_trans hsz hg3.size
      clear hown hr hg3 HBg hlt hsz
      cases b with
      | false =>
        go_wp2_with fail
        go_ret
        exact ⟨_, L, rfl, HO3.out, by omega, hr3.more (by omega), HG3.out⟩
      | true =>
        go_wp2_with fail
        refine (pick_u R (N + 1 + L.length * 3 + 1) 3 (by omega) (by omega) (by omega) _ B hr3).mono ?_
        rintro e w4 ⟨v, rfl, hv0, hv1, hr4, hg4⟩
        have HO4 := Lib.hid (owns_grown HO3.out hg4 hR)
        have HG4 := Lib.hid (grownBy_then2 HG3.out hg4)
        have c0 := HO4.out.cellAt 0 (by omega)
        rw [ints_getD L 0 hL1] at c0
        have f0 := HO4.out.frozenAt 0
        have s4 : B ≤ w4.heap.size := Nat.le_trans hsz3 hg4.size
        clear HO3 HG3 hr3 hg4 hsz3
        have hv : v = 0 ∨ v = 1 ∨ v = 2 := by omega
        rcases hv with rfl | rfl | rfl
        · go_wp2_with fail
          go_ret
          have ha : Below B w4 (w4.alloc (.cells #[] 3)) := (Below.refl _ _).alloc s4 _
          exact ⟨_, [], rfl, World.ownsRow_made w4 #[] 0 s4 (by simp [maxLen]) (by simp), by simp, (hr4.below ha).more (by omega), grownBy_then HG4.out (by rw [← HB.out]; exact ha)⟩
        · go_wp2_with fail
          go_ret
          have ha : Below B w4 (w4.setCell ⟨g, 0, none⟩ (.int .i64 101)) := (Below.refl _ _).setCell hbg _
          exact ⟨_, L.set 0 101, rfl, owns_set0 HO4.out rfl 101, by simp; omega, (hr4.below ha).more (by omega), grownBy_then HG4.out (by rw [← HB.out]; exact ha)⟩
        · obtain ⟨i0, hi, hz0, hz1, hz2⟩ := info_parts YtanhdnbjepjhlaainfoInt
          go_wp2_with (first | (at_make; refine wpList_make_full _ rfl _ _ 23 rfl B 3 i0 (.int .i64 0) 1 Try.underlying23 hi hz0 hz1 .i64 .i64 _ _ 10 rfl rfl (by omega) (by omega) (by rw [hz2]; omega) (by unfold maxLen; omega) s4 ?_; intro w6 hown6 hgrow))
          go_ret
          have hbel := grown_below hgrow
          exact ⟨_, List.replicate 10 0, rfl, by simpa [Value.cells, toList_madeCells_one] using hown6, by simp, (hr4.below (hbel.mono s4)).more (by omega), grownBy_then HG4.out (hbel.mono (by rw [← HB.out]; exact s4))⟩
end Go.Proofs.Ytanhdnbjepjhlaa
