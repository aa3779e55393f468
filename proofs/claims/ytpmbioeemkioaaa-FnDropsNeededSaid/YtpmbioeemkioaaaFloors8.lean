/- The laws FnNextDrop, FnFoundBy, FnBrokenIn. -/
import Derived.Test.YtpmbioeemkioaaaProg
import Derived.Test.YtpmbioeemkioaaaFloors7
namespace Go.Proofs.Ytpmbioeemkioaaa
open Go.RowKit

theorem impl_ND {l h c d v : Int} (e : ND l h c d = v) (w : World) : Calls Try.prog 18 #[.int .i64 l, .int .i64 h, .int .i64 c, .int .i64 d] w fun e w' => e = .returned (.int .i64 v) ∧ Below w.heap.size w w' := by
  rw [← e]; exact impl_NextDrop l h c d w
theorem spec_ND {l h c d v : Int} (e : ND l h c d = v) (w : World) : Calls Try.prog 17 #[.int .i64 l, .int .i64 h, .int .i64 c, .int .i64 d] w fun e w' => e = .returned (.int .i64 v) ∧ Below w.heap.size w w' := by
  rw [← e]; exact spec_NextDrop l h c d w
theorem impl_BI {f b c d v : Int} (e : BI f b c d = v) (w : World) : Calls Try.prog 22 #[.int .i64 f, .int .i64 b, .int .i64 c, .int .i64 d] w fun e w' => e = .returned (.int .i64 v) ∧ Below w.heap.size w w' := by
  rw [← e]; exact impl_BrokenIn f b c d w
theorem spec_BI {f b c d v : Int} (e : BI f b c d = v) (w : World) : Calls Try.prog 21 #[.int .i64 f, .int .i64 b, .int .i64 c, .int .i64 d] w fun e w' => e = .returned (.int .i64 v) ∧ Below w.heap.size w w' := by
  rw [← e]; exact spec_BrokenIn f b c d w
theorem impl_FB {f b c d lo hi : Int} {ok : Bool} (e1 : FBlo f b c d = lo) (e2 : FBhi f b c d = hi) (e3 : decide (DPok f b c d) = ok) (w : World) :
    Calls Try.prog 24 #[.int .i64 f, .int .i64 b, .int .i64 c, .int .i64 d] w fun e w' => e = .returned (.tuple #[.int .i64 lo, .int .i64 hi, .bool ok]) ∧ Below w.heap.size w w' := by
  rw [← e1, ← e2, ← e3]; exact impl_FoundBy f b c d w
theorem spec_FB {f b c d lo hi : Int} {ok : Bool} (e1 : FBlo f b c d = lo) (e2 : FBhi f b c d = hi) (e3 : decide (DPok f b c d) = ok) (w : World) :
    Calls Try.prog 23 #[.int .i64 f, .int .i64 b, .int .i64 c, .int .i64 d] w fun e w' => e = .returned (.tuple #[.int .i64 lo, .int .i64 hi, .bool ok]) ∧ Below w.heap.size w w' := by
  rw [← e1, ← e2, ← e3]; exact spec_FoundBy f b c d w

set_option maxHeartbeats 4000000 in
theorem law_FnNextDrop (a0 : Option Addr) (len0 cap0 : Nat) (z0 : List Int) (w : World) (w0 : IsRow .u8 w a0 len0 cap0 z0) :
    Calls Try.prog 10 #[.slice a0 len0 cap0] w fun e w' => e = .returned (.bool true) ∧ Below w.heap.size w w' := by
  have hc := Code8.of_row w0
  clear w0
  by_cases hl : 1048576 < len0
  · go_enter Try.func10, Try.ntmps10
    go_wp2_with fail
    go_ret
    exact ⟨rfl, Below.refl _ _⟩
  · go_enter Try.func10, Try.ntmps10
    go_wp2_with fail
    refine (spec_DrawNextDrop _ _ _ _ hc).mono ?_
    rintro e w1 ⟨lo, hi, c, d, rfl, ⟨r1, r2, r3, r4⟩, hb1⟩
    clear hc
    by_cases hin : (0 ≤ lo ∧ lo ≤ 10000) ∧ (0 ≤ hi ∧ hi ≤ 10000) ∧ 2 ≤ hi - lo ∧ (1 ≤ c ∧ c ≤ 8) ∧ (1 ≤ d ∧ d ≤ 14)
    · obtain ⟨i1, i2, i3, i4, i5⟩ := hin
      obtain ⟨c, rfl⟩ : ∃ k : Nat, c = k + 1 := ⟨(c - 1).toNat, by omega⟩
      obtain ⟨d, rfl⟩ : ∃ k : Nat, d = k + 1 := ⟨(d - 1).toNat, by omega⟩
      have h0 := ND_nat lo hi c d (by omega) (by omega) (by omega) (by omega) (by omega) (by omega) (by omega)
      have q1 := Lib.hid (impl_TA (show TA ((c : Int) + 1) ((d : Int) + 1) = (Ap (c + 1) d : Int) + (Ap c d : Int) by
            have := TA_in (c + 1) (d + 1) (by omega) (by omega); rw [show ((c + 1 : Nat) : Int) = (c : Int) + 1 by omega, show ((d + 1 : Nat) : Int) = (d : Int) + 1 by omega] at this; rw [this, Ap]; omega))
      have q2 := Lib.hid (impl_TA (TA_in c d (by omega) (by omega)))
      have q3 := Lib.hid (impl_TA (show TA ((c : Int) + 1) d = Ap (c + 1) d by exact TA_in (c + 1) d (by omega) (by omega)))
      have hA := Ap_pos c d
      have hB := Ap_pos (c + 1) d
      have hA2 := Ap_small c d (by omega)
      have hB2 := Ap_small (c + 1) d (by omega)
      generalize Ap c d = A at *
      generalize Ap (c + 1) d = B at *
      generalize hF : min (hi - 1) (lo + (A : Int)) = F at *
      have k1 := Lib.hid (impl_ND h0)
      have k2 := Lib.hid (spec_ND h0)
      have f1 : lo < F := by omega
      have f2 : F < hi := by omega
      have f3 : F - lo ≤ A := by omega
      have f4 : ¬ ((B : Int) + (A : Int) < hi - lo) → hi - F ≤ B := by omega
      clear h0 hF r1 r2 r3 r4
      by_cases hT : (B : Int) + (A : Int) < hi - lo
      · clear f4
        go_wp2_with (first
          | (go_at_call 18; (with_reducible refine (k1.out _).mono ?_); rintro e w2 ⟨rfl, hb2⟩)
          | (go_at_call 17; (with_reducible refine (k2.out _).mono ?_); rintro e w3 ⟨rfl, hb3⟩)
          | (go_at_call 16; (with_reducible refine (q1.out _).mono ?_); rintro e w4 ⟨rfl, hb4⟩))
        go_ret
        have s1 := hb1.size
        have s2 := hb2.size
        have s3 := hb3.size
        exact ⟨rfl, hb1.trans ((hb2.mono s1).trans ((hb3.mono (by omega)).trans (hb4.mono (by omega))))⟩
      · have f5 := f4 hT
        clear f4
        go_wp2_with (first
          | (go_at_call 18; (with_reducible refine (k1.out _).mono ?_); rintro e w2 ⟨rfl, hb2⟩)
          | (go_at_call 17; (with_reducible refine (k2.out _).mono ?_); rintro e w3 ⟨rfl, hb3⟩)
          | (go_at_call 16; (with_reducible refine (q1.out _).mono ?_); rintro e w4 ⟨rfl, hb4⟩)
          | (go_at_call 16; (with_reducible refine (q2.out _).mono ?_); rintro e w5 ⟨rfl, hb5⟩)
          | (go_at_call 16; (with_reducible refine (q3.out _).mono ?_); rintro e w6 ⟨rfl, hb6⟩))
        go_ret
        have s1 := hb1.size
        have s2 := hb2.size
        have s3 := hb3.size
        have s4 := hb4.size
        have s5 := hb5.size
        exact ⟨ret_bool (by simp), hb1.trans ((hb2.mono s1).trans ((hb3.mono (by omega)).trans ((hb4.mono (by omega)).trans ((hb5.mono (by omega)).trans (hb6.mono (by omega))))))⟩
    · have h0 := ND_out lo hi c d hin
      have k1 := Lib.hid (impl_ND h0)
      have k2 := Lib.hid (spec_ND h0)
      clear h0 hin
      go_wp2_with (first
        | (go_at_call 18; (with_reducible refine (k1.out _).mono ?_); rintro e w2 ⟨rfl, hb2⟩)
        | (go_at_call 17; (with_reducible refine (k2.out _).mono ?_); rintro e w3 ⟨rfl, hb3⟩)
        | (go_at_call 31; refine (alive_any _).mono ?_; rintro e w4 ⟨rfl, rfl⟩))
      go_ret
      exact ⟨rfl, hb1.trans ((hb2.mono hb1.size).trans (hb3.mono (Nat.le_trans hb1.size hb2.size)))⟩

set_option maxHeartbeats 4000000 in
theorem law_FnBrokenIn (a0 : Option Addr) (len0 cap0 : Nat) (z0 : List Int) (w : World) (w0 : IsRow .u8 w a0 len0 cap0 z0) :
    Calls Try.prog 14 #[.slice a0 len0 cap0] w fun e w' => e = .returned (.bool true) ∧ Below w.heap.size w w' := by
  have hc := Code8.of_row w0
  clear w0
  by_cases hl : 1048576 < len0
  · go_enter Try.func14, Try.ntmps14
    go_wp2_with fail
    go_ret
    exact ⟨rfl, Below.refl _ _⟩
  · go_enter Try.func14, Try.ntmps14
    go_wp2_with fail
    refine (spec_DrawBrokenIn _ _ _ _ hc).mono ?_
    rintro e w1 ⟨f, b, c, d, rfl, _, hb1⟩
    clear hc
    by_cases hin : DPok f b c d
    · have h0 := BI_in f b c d hin
      obtain ⟨i1, i2, i3, i4⟩ := hin
      have hinv := play_inv b d.toNat 0 (f + 1) c.toNat (by omega)
      have e3 : (EndOf f b c d) = play b d.toNat 0 (f + 1) c.toNat := rfl
      rw [e3] at h0
      have hle := sN_le b (play b d.toNat 0 (f + 1) c.toNat).list
      have hz : f < b → sN b (play b d.toNat 0 (f + 1) c.toNat).list = 0 := fun h => sN_none _ _ (fun x hx => by have := hinv.2.2.2.2 x hx; omega)
      generalize play b d.toNat 0 (f + 1) c.toNat = P at *
      obtain ⟨_, _, h3, h4, _⟩ := hinv
      have hn : c - (P.c : Int) = (sN b P.list : Int) := by omega
      rw [hn] at h0
      have n1 : (sN b P.list : Int) ≤ c := by omega
      have n2 : (sN b P.list : Int) ≤ d := by omega
      have n3 : ¬ b ≤ f → ((sN b P.list : Int) == 0) = true := fun h => by rw [hz (by omega)]; rfl
      have n0 : (0 : Int) ≤ (sN b P.list : Int) := by omega
      generalize (sN b P.list : Int) = n at *
      have k1 := Lib.hid (impl_BI h0)
      have k2 := Lib.hid (spec_BI h0)
      clear h0 hz hn h3 h4 hle e3
      by_cases hbf : b ≤ f
      · clear n3
        go_wp2_with (first
          | (go_at_call 22; (with_reducible refine (k1.out _).mono ?_); rintro e w2 ⟨rfl, hb2⟩)
          | (go_at_call 21; (with_reducible refine (k2.out _).mono ?_); rintro e w3 ⟨rfl, hb3⟩))
        go_ret
        exact ⟨rfl, hb1.trans ((hb2.mono hb1.size).trans (hb3.mono (Nat.le_trans hb1.size hb2.size)))⟩
      · have n4 := n3 hbf
        clear n3
        go_wp2_with (first
          | (go_at_call 22; (with_reducible refine (k1.out _).mono ?_); rintro e w2 ⟨rfl, hb2⟩)
          | (go_at_call 21; (with_reducible refine (k2.out _).mono ?_); rintro e w3 ⟨rfl, hb3⟩))
        go_ret
        exact ⟨rfl, hb1.trans ((hb2.mono hb1.size).trans (hb3.mono (Nat.le_trans hb1.size hb2.size)))⟩
    · have h0 := BI_out f b c d hin
      have k1 := Lib.hid (impl_BI h0)
      have k2 := Lib.hid (spec_BI h0)
      clear h0 hin
      go_wp2_with (first
        | (go_at_call 22; (with_reducible refine (k1.out _).mono ?_); rintro e w2 ⟨rfl, hb2⟩)
        | (go_at_call 21; (with_reducible refine (k2.out _).mono ?_); rintro e w3 ⟨rfl, hb3⟩)
        | (go_at_call 31; refine (alive_any _).mono ?_; rintro e w4 ⟨rfl, rfl⟩))
      go_ret
      exact ⟨rfl, hb1.trans ((hb2.mono hb1.size).trans (hb3.mono (Nat.le_trans hb1.size hb2.size)))⟩

set_option maxHeartbeats 4000000 in
theorem law_FnFoundBy (a0 : Option Addr) (len0 cap0 : Nat) (z0 : List Int) (w : World) (w0 : IsRow .u8 w a0 len0 cap0 z0) :
    Calls Try.prog 13 #[.slice a0 len0 cap0] w fun e w' => e = .returned (.bool true) ∧ Below w.heap.size w w' := by
  have hc := Code8.of_row w0
  clear w0
  by_cases hl : 1048576 < len0
  · go_enter Try.func13, Try.ntmps13
    go_wp2_with fail
    go_ret
    exact ⟨rfl, Below.refl _ _⟩
  · go_enter Try.func13, Try.ntmps13
    go_wp2_with fail
    refine (spec_DrawFoundBy _ _ _ _ hc).mono ?_
    rintro e w1 ⟨f, b, c, d, rfl, _, hb1⟩
    clear hc
    by_cases hin : DPok f b c d
    · have h1 := FBlo_in f b c d hin
      have h2 := FBhi_in f b c d hin
      have h3 := decide_eq_true hin
      obtain ⟨i1, i2, i3, i4⟩ := hin
      obtain ⟨c, rfl⟩ := Int.eq_ofNat_of_zero_le i3.1
      obtain ⟨d, rfl⟩ := Int.eq_ofNat_of_zero_le i4.1
      rw [EndOf_nat] at h1 h2
      obtain ⟨p1, p2⟩ := play_between b d 0 (f + 1) c (by omega) (by omega)
      have hfound := play_found b d 0 (f + 1) c (by omega) (by omega)
      have q1 := Lib.hid (impl_TA (TA_in c d (by omega) (by omega)))
      have hA := Ap_small c d (by omega)
      generalize Ap c d = A at *
      generalize play b d 0 (f + 1) c = P at *
      by_cases hT : (A : Int) ≤ f
      · generalize P.lo = lo at *
        generalize P.hi = hi at *
        have k1 := Lib.hid (impl_FB h1 h2 h3)
        have k2 := Lib.hid (spec_FB h1 h2 h3)
        clear h1 h2 h3 hfound i3 i4
        go_wp2_with (first
          | (go_at_call 24; (with_reducible refine (k1.out _).mono ?_); rintro e w2 ⟨rfl, hb2⟩)
          | (go_at_call 23; (with_reducible refine (k2.out _).mono ?_); rintro e w3 ⟨rfl, hb3⟩)
          | (go_at_call 16; (with_reducible refine (q1.out _).mono ?_); rintro e w4 ⟨rfl, hb4⟩))
        go_ret
        have s1 := hb1.size
        have s2 := hb2.size
        have s3 := hb3.size
        exact ⟨rfl, hb1.trans ((hb2.mono s1).trans ((hb3.mono (by omega)).trans (hb4.mono (by omega))))⟩
      · obtain ⟨g1, g2⟩ := hfound (by omega)
        rw [g1] at h1
        rw [g2] at h2
        have k1 := Lib.hid (impl_FB h1 h2 h3)
        have k2 := Lib.hid (spec_FB h1 h2 h3)
        clear h1 h2 h3 g1 g2 p1 p2 i3 i4 hfound
        go_wp2_with (first
          | (go_at_call 24; (with_reducible refine (k1.out _).mono ?_); rintro e w2 ⟨rfl, hb2⟩)
          | (go_at_call 23; (with_reducible refine (k2.out _).mono ?_); rintro e w3 ⟨rfl, hb3⟩)
          | (go_at_call 16; (with_reducible refine (q1.out _).mono ?_); rintro e w4 ⟨rfl, hb4⟩))
        go_ret
        have s1 := hb1.size
        have s2 := hb2.size
        have s3 := hb3.size
        exact ⟨rfl, hb1.trans ((hb2.mono s1).trans ((hb3.mono (by omega)).trans (hb4.mono (by omega))))⟩
    · have h1 := FBlo_out f b c d hin
      have h2 := FBhi_out f b c d hin
      have h3 := decide_eq_false hin
      have k1 := Lib.hid (impl_FB h1 h2 h3)
      have k2 := Lib.hid (spec_FB h1 h2 h3)
      clear h1 h2 h3 hin
      go_wp2_with (first
        | (go_at_call 24; (with_reducible refine (k1.out _).mono ?_); rintro e w2 ⟨rfl, hb2⟩)
        | (go_at_call 23; (with_reducible refine (k2.out _).mono ?_); rintro e w3 ⟨rfl, hb3⟩)
        | (go_at_call 31; refine (alive_any _).mono ?_; rintro e w4 ⟨rfl, rfl⟩))
      go_ret
      exact ⟨rfl, hb1.trans ((hb2.mono hb1.size).trans (hb3.mono (Nat.le_trans hb1.size hb2.size)))⟩
end Go.Proofs.Ytpmbioeemkioaaa
