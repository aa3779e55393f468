/- The laws FnDropsPlayed, FnDropsNeeded. -/
import Derived.Test.YtpmbioeemkioaaaProg
import Derived.Test.YtpmbioeemkioaaaFloors8
import Derived.Test.YtpmbioeemkioaaaDraw2
import Derived.Deep.RegionWith
namespace Go.Proofs.Ytpmbioeemkioaaa
open Go.RowKit

set_option maxHeartbeats 4000000 in
theorem law_FnDropsPlayed (a0 : Option Addr) (len0 cap0 : Nat) (z0 : List Int) (w : World) (w0 : IsRow .u8 w a0 len0 cap0 z0) :
    Calls Try.prog 12 #[.slice a0 len0 cap0] w fun e w' => e = .returned (.bool true) ∧ Below w.heap.size w w' := by
  have hc := Code8.of_row w0
  clear w0
  by_cases hl : 1048576 < len0
  · go_enter Try.func12, Try.ntmps12
    go_wp2_with fail
    go_ret
    exact ⟨rfl, Below.refl _ _⟩
  · go_enter Try.func12, Try.ntmps12
    go_wp2_with fail
    refine (spec_DrawDropsPlayed _ _ _ _ hc).mono ?_
    rintro e w1 ⟨f, b, c, d, rfl, _, hb1⟩
    clear hc
    have k1 := Lib.hid (impl_DropsPlayed f b c d)
    have k2 := Lib.hid (spec_DropsPlayed f b c d)
    have facts : (DP f b c d).Nodup ∧ (∀ x ∈ DP f b c d, 1 ≤ x ∧ x ≤ f) ∧ (DP f b c d).length ≤ 14 ∧ (DP f b c d ≠ [] → ((DP f b c d).length : Int) ≤ d ∧ 0 < c) := by
      by_cases hin : DPok f b c d
      · rw [DP_in f b c d hin]
        obtain ⟨i1, i2, i3, i4⟩ := hin
        have hinv := play_inv b d.toNat 0 (f + 1) c.toNat (by omega)
        have hnd := play_nodup b d.toNat 0 (f + 1) c.toNat (by omega)
        have hem := play_empty b 0 (f + 1) c.toNat d.toNat
        unfold EndOf
        refine ⟨hnd, fun x hx => ?_, by omega, fun hne => ⟨by omega, by have := hem hne; omega⟩⟩
        have := hinv.2.2.2.2 x hx
        omega
      · rw [DP_out f b c d hin]; simp
    generalize DP f b c d = L at *
    obtain ⟨F1, F2, F3, F4⟩ := facts
    have H1 := Lib.hid F1
    have H2 := Lib.hid F2
    have H4 := Lib.hid F4
    clear F1 F2 F4
    go_wp2_with fail
    refine (k1.out _).mono ?_
    rintro e w2 ⟨v, rfl, o2, hb2⟩
    go_wp2_with fail
    refine (k2.out _).mono ?_
    rintro e w3 ⟨u, rfl, o3, hb3⟩
    have o2 := o2.below hb3
    go_wp2_with fail
    refine (sameInts_yes _ _ L _ o2.rd o3.rd).mono ?_
    rintro e w4 ⟨rfl, hb4⟩
    have o4 := o2.rd.below hb4
    have hbel : Below w.heap.size w w4 := hb1.trans ((hb2.mono hb1.size).trans ((hb3.mono (Nat.le_trans hb1.size hb2.size)).trans (hb4.mono (Nat.le_trans (Nat.le_trans hb1.size hb2.size) hb3.size))))
    have hsz : w.heap.size ≤ w4.heap.size := hbel.size
    clear hb1 hb2 hb3 hb4 o2 o3 k1 k2
    obtain ⟨a, ca, rfl, hm, ho⟩ := o4
    have HO := Lib.hid ho
    clear ho hm
    go_wp2_with fail
    go_loopw [8] (fun v wr => ∃ k : Nat, k ≤ L.length ∧ v = .int .i64 k ∧ Below w4.heap.size w4 wr) (fun v _ => L.length - (intOf v).toNat)
    case atStart => exact ⟨0, by omega, rfl, Below.refl _ _⟩
    case round =>
      obtain ⟨k, hk, rfl, hbr⟩ := hrel
      by_cases hlt : k < L.length
      · have hne : L ≠ [] := by intro e; rw [e] at hlt; simp at hlt
        obtain ⟨g, off, rfl, hcell⟩ := HO.out hne
        have HC := Lib.hid hcell
        have x1 := (H2.out _ (getD_mem L k hlt)).1
        have x2 := (H2.out _ (getD_mem L k hlt)).2
        obtain ⟨x, hx⟩ : ∃ x, x = L.getD k 0 := ⟨_, rfl⟩
        rw [← hx] at x1 x2
        have HX := Lib.hid hx
        clear hne hcell hx
        go_wp2_with fail
        go_loopw [9] (fun v wr => ∃ j : Nat, j ≤ k ∧ v = .int .i64 j ∧ Below w4.heap.size w4 wr) (fun v _ => k - (intOf v).toNat)
        case atStart => exact ⟨0, by omega, rfl, hbr⟩
        case round =>
          clear hbr
          obtain ⟨j, hj, rfl, hbr⟩ := hrel
          have hck0 := HC.out k hlt
          have hck := (hbr.cell (p := ⟨g, off + k, none⟩) (World.block_lt_of_cell? w4 _ hck0)).trans hck0
          rw [← HX.out] at hck
          clear hck0
          have hi0 : (0 : Int) ≤ (k : Int) := by omega
          have hi1 : (k : Int) < (L.length : Int) := by omega
          by_cases hjk : j < k
          · have hcj0 := HC.out j (by omega)
            have hcj := (hbr.cell (p := ⟨g, off + j, none⟩) (World.block_lt_of_cell? w4 _ hcj0)).trans hcj0
            clear hcj0
            have hyx : (L.getD j 0 == x) = false := by have := nodup_getD H1.out hjk hlt; rw [HX.out]; simpa using this
            generalize L.getD j 0 = y at *
            have hj0 : (0 : Int) ≤ (j : Int) := by omega
            have hj1 : (j : Int) < (L.length : Int) := by omega
            go_wp2_with fail
            go_quiet (fail)
            go_wp2_with fail
            go_roundw
            case rel => exact ⟨j + 1, by omega, by go_num, below_drewN hbr _⟩
            case measure => simp [intOf]; omega
          · go_wp2_with fail
            go_roundw
            case rel => exact ⟨k + 1, by omega, by go_num, hbr⟩
            case measure => simp [intOf]; omega
      · clear hk HO H1 H2
        by_cases he : L = []
        · have hl0 : ((L.length : Int) == 0) = true := by rw [he]; rfl
          clear he H4
          go_wp2_with (first | (go_at_call 31; refine (alive_any _).mono ?_; rintro e w5 ⟨rfl, rfl⟩))
          go_ret
          exact ⟨rfl, hbel.trans (hbr.mono hsz)⟩
        · obtain ⟨n1, n2⟩ := H4.out he
          have hl0 : ((L.length : Int) == 0) = false := by
            have : L.length ≠ 0 := fun e => he (List.eq_nil_of_length_eq_zero e)
            simp; omega
          clear he H4
          go_wp2_with (first | (go_at_call 31; refine (alive_any _).mono ?_; rintro e w5 ⟨rfl, rfl⟩))
          go_ret
          exact ⟨rfl, hbel.trans (hbr.mono hsz)⟩

set_option maxHeartbeats 8000000 in
theorem spec_DrawDropsNeeded (a : Option Addr) (len cap : Nat) (w : World) (h : Code8 w a len cap) :
    Calls Try.prog 33 #[.slice a len cap] w (DrewTwo (-1) 9999 0 8 w) := by
  go_enter Try.func33, Try.ntmps33
  go_wp2_with fail
  refine (open_any a len cap _ h).mono ?_
  rintro e w1 ⟨rfl, hr1, hb1⟩
  obtain ⟨bs, hr⟩ := RdB.of_rdr hr1
  clear hr1
  obtain ⟨v0, e0⟩ : ∃ v, v = val bs 0 30 := ⟨_, rfl⟩
  obtain ⟨v1, e1⟩ : ∃ v, v = val bs 1 250 := ⟨_, rfl⟩
  obtain ⟨v2, e2⟩ : ∃ v, v = val bs 2 250 := ⟨_, rfl⟩
  obtain ⟨v3, e3⟩ : ∃ v, v = val bs 3 14 := ⟨_, rfl⟩
  obtain ⟨v4, e4⟩ : ∃ v, v = val bs 4 9 := ⟨_, rfl⟩
  have l0 : 0 ≤ v0 := by rw [e0]; exact val_lo _ _ _ (by omega)
  have u0 : v0 < 30 := by rw [e0]; exact val_hi _ _ _ (by omega)
  have l1 : 0 ≤ v1 := by rw [e1]; exact val_lo _ _ _ (by omega)
  have u1 : v1 < 250 := by rw [e1]; exact val_hi _ _ _ (by omega)
  have l2 : 0 ≤ v2 := by rw [e2]; exact val_lo _ _ _ (by omega)
  have u2 : v2 < 250 := by rw [e2]; exact val_hi _ _ _ (by omega)
  have l3 : 0 ≤ v3 := by rw [e3]; exact val_lo _ _ _ (by omega)
  have u3 : v3 < 14 := by rw [e3]; exact val_hi _ _ _ (by omega)
  have l4 : 0 ≤ v4 := by rw [e4]; exact val_lo _ _ _ (by omega)
  have u4 : v4 < 9 := by rw [e4]; exact val_hi _ _ _ (by omega)
  have c0 := ask (R := w.heap.size) 0 e0 (by omega) (by omega) (by omega)
  have c1 := ask (R := w.heap.size) 1 e1 (by omega) (by omega) (by omega)
  have c2 := ask (R := w.heap.size) 2 e2 (by omega) (by omega) (by omega)
  have c3 := ask (R := w.heap.size) 3 e3 (by omega) (by omega) (by omega)
  have c4 := ask (R := w.heap.size) 4 e4 (by omega) (by omega) (by omega)
  clear e0 e1 e2 e3 e4
  have m2 : IntKind.i64.wrap (v2 * 40) = v2 * 40 := IntWalk.i64_in _ (by omega)
  have hq : v3 / 3 = 0 ∨ v3 / 3 = 1 ∨ v3 / 3 = 2 ∨ v3 / 3 = 3 ∨ v3 / 3 = 4 := by omega
  have ht : v3.tdiv 3 = v3 / 3 := Int.tdiv_eq_ediv_of_nonneg l3
  go_wp2_with fail
  rcases hq with hq | hq | hq | hq | hq
  all_goals
    rw [hq] at ht
    go_region_with (first
      | (go_at_call 44; (with_reducible refine (c0.out _ (by first | assumption | exact RdB.drew (by assumption) | exact RdB.alloc (by assumption) _ | exact RdB.drew (RdB.alloc (by assumption) _))).mono ?_); rintro e w2 ⟨rfl, hr2, hg2, hc2, hs2, hn2⟩)
      | (go_at_call 44; (with_reducible refine (c1.out _ (by first | assumption | exact RdB.drew (by assumption) | exact RdB.alloc (by assumption) _ | exact RdB.drew (RdB.alloc (by assumption) _))).mono ?_); rintro e w3 ⟨rfl, hr3, hg3, hc3, hs3, hn3⟩)
      | (go_at_call 44; (with_reducible refine (c2.out _ (by first | assumption | exact RdB.drew (by assumption) | exact RdB.alloc (by assumption) _ | exact RdB.drew (RdB.alloc (by assumption) _))).mono ?_); rintro e w4 ⟨rfl, hr4, hg4, hc4, hs4, hn4⟩)
      | (go_at_call 44; (with_reducible refine (c3.out _ (by first | assumption | exact RdB.drew (by assumption) | exact RdB.alloc (by assumption) _ | exact RdB.drew (RdB.alloc (by assumption) _))).mono ?_); rintro e w5 ⟨rfl, hr5, hg5, hc5, hs5, hn5⟩)
      | (go_at_call 44; (with_reducible refine (c4.out _ (by first | assumption | exact RdB.drew (by assumption) | exact RdB.alloc (by assumption) _ | exact RdB.drew (RdB.alloc (by assumption) _))).mono ?_); rintro e w6 ⟨rfl, hr6, hg6, hc6, hs6, hn6⟩))
    all_goals
      go_wp2_with fail
      go_ret2
      refine ⟨_, _, rfl, by omega, by omega, ?_⟩
      repeat (first | exact hb1 | (refine below_pick ?_ (by assumption) (Nat.le_refl _)) | refine Below.drew ?_ | refine Below.alloc ?_ (Nat.le_of_lt (RdB.lt (by assumption))) _)
end Go.Proofs.Ytpmbioeemkioaaa
