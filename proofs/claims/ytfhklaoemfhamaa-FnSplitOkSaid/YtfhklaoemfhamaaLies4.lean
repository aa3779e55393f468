/- The law FnExactSplitOk; confirmed; impl.AfterYes, impl.AfterNo. -/
import Derived.Test.YtfhklaoemfhamaaProg
import Derived.Test.YtfhklaoemfhamaaLies3
namespace Go.Proofs.Ytfhklaoemfhamaa
open Go.RowKit

set_option maxHeartbeats 1000000 in
theorem law_FnExactSplitOk (a0 : Option Addr) (len0 cap0 : Nat) (z0 : List Int) (a1 : Option Addr) (len1 cap1 : Nat) (z1 : List Int) (w : World) (w0 : IsRow .i64 w a0 len0 cap0 z0) (w1 : IsRow .i64 w a1 len1 cap1 z1) :
    Calls Try.prog 4 #[.slice a0 len0 cap0, .slice a1 len1 cap1] w fun e w' => e = .returned (.bool true) ∧ Below w.heap.size w w' := by
  obtain ⟨hr, hm, hlen⟩ := Rd.of_row w0
  obtain ⟨hs, hm1, hlen1⟩ := Rd.of_row w1
  clear w0 w1
  generalize z0.take len0 = xs at *
  generalize z1.take len1 = qs at *
  unfold maxLen at hm hm1
  by_cases hl : 1048576 < len0
  · go_enter Try.func4, Try.ntmps4
    go_wp2_with fail
    go_ret
    exact ⟨rfl, Below.refl _ _⟩
  · by_cases hl1 : 1048576 < len1
    · go_enter Try.func4, Try.ntmps4
      go_wp2_with fail
      go_ret
      exact ⟨rfl, Below.refl _ _⟩
    · have hx : xs.length ≤ 1048576 := by omega
      have hy : qs.length ≤ 1048576 := by omega
      clear hlen hm hlen1 hm1
      have hr0 := Lib.hid hr
      have hs0 := Lib.hid hs
      clear hr hs
      go_enter Try.func4, Try.ntmps4
      go_wp2_with fail
      refine (toIntS_any _ xs _ hr0.out hx).mono ?_
      rintro e w1 ⟨u1, rfl, o1, hb1⟩
      have B1 := hb1
      go_wp2_with fail
      refine (toIntS_any _ qs _ (hs0.out.below B1) hy).mono ?_
      rintro e w2 ⟨u2, rfl, o2, hb2⟩
      have B2 := B1.trans (hb2.mono B1.size)
      go_wp2_with fail
      refine (spec_SplitOk _ _ xs qs _ (o1.below hb2).rd o2.rd hx hy).mono ?_
      rintro e w3 ⟨rfl, hb3⟩
      have B3 := B2.trans (hb3.mono B2.size)
      go_wp2_with fail
      refine (toIntS_any _ xs _ (hr0.out.below B3) hx).mono ?_
      rintro e w4 ⟨u4, rfl, o4, hb4⟩
      have B4 := B3.trans (hb4.mono B3.size)
      go_wp2_with fail
      refine (toIntS_any _ qs _ (hs0.out.below B4) hy).mono ?_
      rintro e w5 ⟨u5, rfl, o5, hb5⟩
      have B5 := B4.trans (hb5.mono B4.size)
      have o4 := o4.below hb5
      go_wp2_with fail
      refine (impl_SplitOk _ _ xs qs _ o4.rd o5.rd hy).mono ?_
      rintro e w6 ⟨rfl, hb6⟩
      have B6 := B5.trans (hb6.mono B5.size)
      have o4 := o4.below hb6
      have o5 := o5.below hb6
      go_wp2_with fail
      refine (toIntS_any _ xs _ (hr0.out.below B6) hx).mono ?_
      rintro e w7 ⟨u7, rfl, o7, hb7⟩
      have B7 := B6.trans (hb7.mono B6.size)
      have o4 := o4.below hb7
      have o5 := o5.below hb7
      go_wp2_with fail
      refine (eqIntS_yes _ _ xs _ o4.rd o7.rd).mono ?_
      rintro e w8 ⟨rfl, hb8⟩
      have B8 := B7.trans (hb8.mono B7.size)
      have o5 := o5.below hb8
      go_wp2_with fail
      refine (toIntS_any _ qs _ (hs0.out.below B8) hy).mono ?_
      rintro e w9 ⟨u9, rfl, o9, hb9⟩
      have B9 := B8.trans (hb9.mono B8.size)
      have o5 := o5.below hb9
      go_wp2_with fail
      refine (eqIntS_yes _ _ qs _ o5.rd o9.rd).mono ?_
      rintro e w10 ⟨rfl, hb10⟩
      have B10 := B9.trans (hb10.mono B9.size)
      go_wp2_with fail
      go_ret
      exact ⟨rfl, B10⟩

set_option maxHeartbeats 1600000 in
theorem confirmed_row (v u : Value) (xs qs : List Int) (w : World) (h : Rd w v xs) (hq : Rd w u qs) (hn : 1 ≤ xs.length ∧ xs.length ≤ 3) (hl : qs.length = xs.length)
    (hx : ∀ j, j < xs.length → 0 ≤ xs.getD j 0 ∧ xs.getD j 0 ≤ 10) (hy : ∀ j, j < xs.length → 0 ≤ qs.getD j 0 ∧ qs.getD j 0 ≤ 10) :
    Calls Try.prog 41 #[v, u] w fun e w' => ∃ g cap, e = .returned (.slice (some ⟨g, 0, none⟩) xs.length cap) ∧ xs.length ≤ cap ∧ cap ≤ maxLen ∧ w.heap.size ≤ g ∧ g < w'.heap.size ∧ RowAt w' g xs.length (aftF xs.length xs qs) ∧ Below w.heap.size w w' := by
  have hneq : qs ≠ [] := by intro e; rw [e] at hl; simp at hl; omega
  have kc := Lib.hid (clone_row u qs w hq hneq (by omega))
  have ko := Lib.hid (fun w' (b : Below w.heap.size w w') => others_row v u xs qs w' (h.below b) (hq.below b) hn hl hx hy)
  have HX := Lib.hid hx
  have HY := Lib.hid hy
  rw [hl] at kc
  generalize hnn : xs.length = n at *
  obtain ⟨hn1, hn2⟩ := hn
  clear hx hy hl hnn hneq h hq
  go_enter Try.func41, Try.ntmps41
  go_wp2_with (first | (go_at_call 52; (with_reducible refine kc.out.mono ?_); rintro e w1 ⟨g, cap, rfl, hnc, hcm, hg0, hg1, hr1, hb1⟩))
  refine (ko.out _ hb1).mono ?_
  rintro e w2 ⟨g2, cap2, rfl, hnc2, hcm2, hg20, hg21, hr2, hb2⟩
  have hr1 := hr1.below hb2 hg1
  have B2 := hb1.trans (hb2.mono hb1.size)
  have hg1' : g < w2.heap.size := Nat.lt_of_lt_of_le hg1 hb2.size
  have hgg : g < g2 := by omega
  have HCM := Lib.hid hcm
  unfold maxLen at hcm2
  clear hcm ko kc hb1 hb2 hg1 hg20
  by_cases hn0 : n = 1
  · subst hn0
    by_cases hc1 : cap2 = 1
    · subst hc1
      go_wp2_with fail
      refine wp_loop_rounds 1 ?_
      rw [rounds_succ]
      go_wp2_with fail
      go_ret
      exact ⟨g, cap, rfl, hnc, HCM.out, hg0, hg1', hr1.congr (fun j hj => by have h0 : j = 0 := (by omega); subst h0; simp [aftF]), B2⟩
    · go_wp2_with fail
      refine wp_loop_rounds 1 ?_
      rw [rounds_succ]
      go_wp2_with fail
      go_ret
      exact ⟨g, cap, rfl, hnc, HCM.out, hg0, hg1', hr1.congr (fun j hj => by have h0 : j = 0 := (by omega); subst h0; simp [aftF]), B2⟩
  · obtain ⟨m, rfl⟩ : ∃ m, n = m + 2 := ⟨n - 2, by omega⟩
    have hc1 : ¬ cap2 = 1 := by omega
    clear hn0
    go_wp2_with fail
    go_loopw [15] (fun q wr => ∃ k : Nat, k ≤ m + 1 ∧ q = .int .i64 k ∧ RowAt wr g (m + 2) (fun j => if j < k then aftF (m + 2) xs qs j else qs.getD j 0) ∧ w2.grownBy wr (some g)) (fun q _ => m + 1 - (intOf q).toNat)
    case atStart => exact ⟨0, by omega, rfl, hr1.congr (fun j hj => by rw [if_neg (by omega)]), World.grownBy.refl _ _⟩
    case round =>
      clear hr1
      obtain ⟨k, hk, rfl, hr, hgr⟩ := hrel
      by_cases hlt : k < m + 1
      · have c1 := hr.cell k (by omega)
        have f1 := hr.free k (by omega)
        rw [if_neg (by omega)] at c1
        have c2 : wr.cell? ⟨g2, 1 + k, none⟩ = some (.int .i64 (othF xs qs (1 + k))) :=
          hgr.cell (hr2.cell (1 + k) (by omega)) (by simp; omega)
        have hx := HX.out (1 + k) (by omega)
        have hy := HY.out (1 + k) (by omega)
        have hy0 := HY.out k (by omega)
        have HF : Hid (aftF (m + 2) xs qs k = qs.getD k 0 + othF xs qs (1 + k)) := by
          show _ = _
          unfold aftF othF
          rw [if_pos (by omega), Nat.add_comm k 1]
        have ho : othF xs qs (1 + k) = xs.getD (1 + k) 0 - qs.getD (1 + k) 0 := rfl
        have ho1 : -10 ≤ othF xs qs (1 + k) := by omega
        have ho2 : othF xs qs (1 + k) ≤ 10 := by omega
        clear ho hx hy
        generalize othF xs qs (1 + k) = x at *
        generalize qs.getD k 0 = y at *
        have hi0 : (0 : Int) ≤ (k : Int) := by omega
        have hi1 : (k : Int) < (m : Int) + 1 := by omega
        have hi2 : (k : Int) < (m : Int) + 2 := by omega
        go_wp2_with fail
        go_roundw
        case rel =>
          refine ⟨k + 1, by omega, by go_num, (hr.set k _).congr (fun j hj => ?_), grownBy_set hgr _ _⟩
          by_cases ej : j = k
          · subst ej; rw [if_pos rfl, if_pos (by omega)]; exact HF.out.symm
          · rw [if_neg ej]
            by_cases l : j < k
            · rw [if_pos l, if_pos (by omega)]
            · rw [if_neg l, if_neg (by omega)]
        case measure => simp [intOf]; omega
      · have hkn : k = m + 1 := by omega
        have HK := Lib.hid hkn
        clear hkn
        go_wp2_with fail
        go_ret
        refine ⟨g, cap, rfl, hnc, HCM.out, hg0, Nat.lt_of_lt_of_le hg1' hgr.size, hr.congr (fun j hj => ?_), B2.grown hgr B2.size (fun k' hk' => by cases hk'; exact hg0)⟩
        have hk := HK.out
        by_cases l : j < k
        · rw [if_pos l]
        · rw [if_neg l]
          unfold aftF
          rw [if_neg (by omega)]
          simp

theorem Ow.of_fn {w : World} {base B n cap : Nat} {f : Nat → Int} (h : RowAt w B n f) (hc : n ≤ cap) (hm : cap ≤ maxLen) (hb : base ≤ B) : Ow w base (.slice (some ⟨B, 0, none⟩) n cap) (fnl n f) :=
  Ow.of_at (h.congr (fun j hj => (fnl_getD n f j hj).symm)) (fnl_length n f) (Nat.le_trans hc hm) hb

/-- What is known after the answer yes. -/
def AY (xs qs : List Int) : List Int := if SOk xs qs = true then fnl xs.length (aftF xs.length xs qs) else []
/-- What is known after the answer no. -/
def AN (xs qs : List Int) : List Int := if SOk xs qs = true then fnl xs.length (aftF xs.length xs (fnl xs.length (othF xs qs))) else []

set_option maxHeartbeats 800000 in
theorem impl_AfterYes (v u : Value) (xs qs : List Int) (w : World) (h : Rd w v xs) (hq : Rd w u qs) (hql : qs.length ≤ 1048576) :
    Calls Try.prog 23 #[v, u] w fun e w' => ∃ r, e = .returned r ∧ Ow w' w.heap.size r (AY xs qs) ∧ Below w.heap.size w w' := by
  have k := Lib.hid (impl_SplitOk v u xs qs w h hq hql)
  cases hs : SOk xs qs with
  | false =>
    have e : AY xs qs = [] := by unfold AY; rw [hs]; rfl
    rw [e]
    rw [hs] at k
    clear e hs h hq
    go_enter Try.func23, Try.ntmps23
    go_wp2_with (first | (go_at_call 17; (with_reducible refine k.out.mono ?_); rintro e w1 ⟨rfl, hb⟩))
    go_ret
    exact ⟨_, rfl, Ow.nil _ _ _ _, hb⟩
  | true =>
    have e : AY xs qs = fnl xs.length (aftF xs.length xs qs) := by unfold AY; rw [hs]; rfl
    rw [e]
    obtain ⟨hn, hl, hx, hy⟩ := SOk_in hs
    rw [hs] at k
    have kc := Lib.hid (fun w' (b : Below w.heap.size w w') => confirmed_row v u xs qs w' (h.below b) (hq.below b) hn hl hx (fun j hj => by have := hx j hj; have := hy j hj; omega))
    clear e hs h hq hn hl hx hy
    go_enter Try.func23, Try.ntmps23
    go_wp2_with (first | (go_at_call 17; (with_reducible refine k.out.mono ?_); rintro e w1 ⟨rfl, hb⟩))
    refine (kc.out _ hb).mono ?_
    rintro e w2 ⟨g, cap, rfl, hnc, hcm, hg0, hg1, hr, hb2⟩
    go_wp2_with fail
    go_ret
    exact ⟨_, rfl, Ow.of_fn hr hnc hcm (Nat.le_trans hb.size hg0), hb.trans (hb2.mono hb.size)⟩

set_option maxHeartbeats 800000 in
theorem impl_AfterNo (v u : Value) (xs qs : List Int) (w : World) (h : Rd w v xs) (hq : Rd w u qs) (hql : qs.length ≤ 1048576) :
    Calls Try.prog 27 #[v, u] w fun e w' => ∃ r, e = .returned r ∧ Ow w' w.heap.size r (AN xs qs) ∧ Below w.heap.size w w' := by
  have k := Lib.hid (impl_SplitOk v u xs qs w h hq hql)
  cases hs : SOk xs qs with
  | false =>
    have e : AN xs qs = [] := by unfold AN; rw [hs]; rfl
    rw [e]
    rw [hs] at k
    clear e hs h hq
    go_enter Try.func27, Try.ntmps27
    go_wp2_with (first | (go_at_call 17; (with_reducible refine k.out.mono ?_); rintro e w1 ⟨rfl, hb⟩))
    go_ret
    exact ⟨_, rfl, Ow.nil _ _ _ _, hb⟩
  | true =>
    have e : AN xs qs = fnl xs.length (aftF xs.length xs (fnl xs.length (othF xs qs))) := by unfold AN; rw [hs]; rfl
    rw [e]
    obtain ⟨hn, hl, hx, hy⟩ := SOk_in hs
    rw [hs] at k
    have ko := Lib.hid (fun w' (b : Below w.heap.size w w') => others_row v u xs qs w' (h.below b) (hq.below b) hn hl hx (fun j hj => by have := hx j hj; have := hy j hj; omega))
    have hz : ∀ j, j < xs.length → 0 ≤ (fnl xs.length (othF xs qs)).getD j 0 ∧ (fnl xs.length (othF xs qs)).getD j 0 ≤ 10 := by
      intro j hj
      rw [fnl_getD _ _ _ hj]
      have := hx j hj; have := hy j hj; unfold othF; omega
    have kc := Lib.hid (fun w' z (b : Below w.heap.size w w') (hz' : Rd w' z (fnl xs.length (othF xs qs))) => confirmed_row v z xs (fnl xs.length (othF xs qs)) w' (h.below b) hz' hn (fnl_length _ _) hx hz)
    clear e hs h hq hl hx hy hz
    generalize hnn : xs.length = n at *
    obtain ⟨hn1, hn2⟩ := hn
    go_enter Try.func27, Try.ntmps27
    go_wp2_with (first | (go_at_call 17; (with_reducible refine k.out.mono ?_); rintro e w1 ⟨rfl, hb⟩))
    refine (ko.out _ hb).mono ?_
    rintro e w2 ⟨g, cap, rfl, hnc, hcm, hg0, hg1, hr, hb2⟩
    have B2 := hb.trans (hb2.mono hb.size)
    go_wp2_with fail
    refine (kc.out _ _ B2 (Ow.of_fn hr hnc hcm (Nat.le_refl _)).rd).mono ?_
    rintro e w3 ⟨g3, cap3, rfl, hnc3, hcm3, hg30, hg31, hr3, hb3⟩
    go_wp2_with fail
    go_ret
    exact ⟨_, rfl, Ow.of_fn hr3 hnc3 hcm3 (Nat.le_trans B2.size hg30), B2.trans (hb3.mono B2.size)⟩
end Go.Proofs.Ytfhklaoemfhamaa
