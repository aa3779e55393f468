/- BoundFor. -/
import Derived.Test.YtfhklaoemfhamaaProg
import Derived.Test.YtfhklaoemfhamaaLies7
import Derived.Deep.RegionWith
namespace Go.Proofs.Ytfhklaoemfhamaa
open Go.RowKit

/-- the first number of questions from q on, of n, for which the weight is small enough -/
def bfFrom (xs : List Int) (q : Nat) : Nat → Int
  | 0 => -1
  | n + 1 => if WO xs q ≤ ((2 ^ q : Nat) : Int) then (q : Int) else bfFrom xs (q + 1) n
def BF (xs : List Int) : Int := if KOk xs = true then bfFrom xs 0 10 else -1

theorem WO_bd (xs : List Int) (q : Nat) : -1 ≤ WO xs q ∧ WO xs q ≤ 1500 := by
  by_cases h : KOk xs = true ∧ (0 : Int) ≤ (q : Int) ∧ (q : Int) ≤ 9
  · rw [WO_in h.1 (by omega)]
    have := WS_bd (q := q) h.1 (by omega) xs.length (by omega)
    have h3 := (KOk_len h.1).2
    omega
  · rw [WO_out h]; omega

theorem shl_fact2 (q P : Nat) (h : P = 2 ^ q) (h2 : P ≤ 512) : IntKind.i64.wrap ((2 : Int) ^ q) = (P : Int) := by
  have e : ((2 : Int) ^ q) = ((2 ^ q : Nat) : Int) := by simp
  rw [e, ← h]
  exact IntWalk.i64_in _ (by omega)

theorem shl_fact (q : Nat) (h : q < 10) : ∃ P : Nat, P = 2 ^ q ∧ P ≤ 512 ∧ wrap64 ((2 : Int) ^ q) = (P : Int) := by
  refine ⟨2 ^ q, rfl, ?_, ?_⟩
  · have : 2 ^ q ≤ 2 ^ 9 := Nat.pow_le_pow_right (by omega) (by omega)
    omega
  · have h1 : 2 ^ q ≤ 2 ^ 9 := Nat.pow_le_pow_right (by omega) (by omega)
    have e : ((2 : Int) ^ q) = ((2 ^ q : Nat) : Int) := by simp
    rw [e]
    generalize 2 ^ q = P at *
    exact IntWalk.wrap64_in _ ⟨by omega, by omega⟩

set_option maxHeartbeats 800000 in
theorem spec_BoundFor (v : Value) (xs : List Int) (w : World) (h : Rd w v xs) (hxl : xs.length ≤ 1048576) :
    Calls Try.prog 20 #[v] w fun e w' => e = .returned (.int .i64 (BF xs)) ∧ Below w.heap.size w w' := by
  have k0 := Lib.hid (fun w' (b : Below w.heap.size w w') => spec_KnownOk v xs w' (h.below b) hxl)
  have kw := Lib.hid (fun w' (q : Int) (b : Below w.heap.size w w') => spec_WeightOf v xs q w' (h.below b) hxl)
  obtain ⟨R, hR⟩ : ∃ R, R = BF xs := ⟨_, rfl⟩
  rw [← hR]
  cases hk : KOk xs with
  | false =>
    have e : R = -1 := by rw [hR]; unfold BF; rw [hk]; rfl
    rw [hk] at k0
    have k1 := Lib.hid (k0.out w (Below.refl _ _))
    rw [e]
    clear h hk e hR
    go_enter Try.func20, Try.ntmps20
    go_wp2_with fail
    refine wp_loop_rounds 1 ?_
    rw [rounds_succ]
    go_wp2_with (first | (go_at_call 12; (with_reducible refine k1.out.mono ?_); rintro e w' ⟨rfl, rfl⟩))
    go_ret
    exact ⟨rfl, Below.refl _ _⟩
  | true =>
    have e : R = bfFrom xs 0 10 := by rw [hR]; unfold BF; rw [hk]; rfl
    have HE := Lib.hid e
    rw [hk] at k0
    clear h hk e hR
    go_enter Try.func20, Try.ntmps20
    go_wp2_with fail
    go_loopw [3] (fun q wr => ∃ k : Nat, k ≤ 10 ∧ q = .int .i64 k ∧ Below w.heap.size w wr ∧ Hid (bfFrom xs k (10 - k) = R)) (fun q _ => 10 - (intOf q).toNat)
    case atStart => exact ⟨0, by omega, rfl, Below.refl _ _, HE.out.symm⟩
    case round =>
      obtain ⟨k, hk, rfl, hbel, HR⟩ := hrel
      by_cases hlt : k < 10
      · have k1 := Lib.hid (k0.out wr hbel)
        have k2 := Lib.hid (fun w' b => kw.out w' k b)
        obtain ⟨P, hP, hP2, hsh⟩ := shl_fact k hlt
        have hsh2 := shl_fact2 k P hP hP2
        have hW := WO_bd xs k
        have hm0 : (0 : Int) ≤ (k : Int) := by omega
        have hm1 : (k : Int) < 64 := by omega
        by_cases hle : WO xs k ≤ (P : Int)
        · have HR2 : Hid ((k : Int) = R) := by
            have := HR.out
            rw [show 10 - k = (10 - (k + 1)) + 1 by omega, bfFrom, if_pos (by rw [← hP]; exact hle)] at this
            exact this
          generalize WO xs k = W at *
          clear HR hP kw
          go_wp2_with (first | (go_at_call 12; (with_reducible refine k1.out.mono ?_); rintro e w' ⟨rfl, rfl⟩))
          go_region_with (first | (go_at_call 18; (with_reducible refine (k2.out _ (by first | exact hbel | exact hbel.drew)).mono ?_); rintro e w1 ⟨rfl, hb1⟩))
          all_goals
            go_wp2_with fail
            go_ret
            exact ⟨ret_int HR2.out, by first | exact hbel.trans (hb1.mono hbel.size) | exact hbel.drew.trans (hb1.mono hbel.drew.size)⟩
        · have HR2 : Hid (bfFrom xs (k + 1) (10 - (k + 1)) = R) := by
            have := HR.out
            rw [show 10 - k = (10 - (k + 1)) + 1 by omega, bfFrom, if_neg (by rw [← hP]; exact hle)] at this
            exact this
          generalize WO xs k = W at *
          clear HR hP kw
          go_wp2_with (first | (go_at_call 12; (with_reducible refine k1.out.mono ?_); rintro e w' ⟨rfl, rfl⟩))
          go_region_with (first | (go_at_call 18; (with_reducible refine (k2.out _ (by first | exact hbel | exact hbel.drew)).mono ?_); rintro e w1 ⟨rfl, hb1⟩))
          all_goals
            go_wp2_with fail
            go_roundw
            case rel => exact ⟨k + 1, by omega, by go_num, by first | exact hbel.trans (hb1.mono hbel.size) | exact hbel.drew.trans (hb1.mono hbel.drew.size), HR2⟩
            case measure => simp [intOf]; omega
      · have HR2 : Hid (R = -1) := by
          have := HR.out
          rw [show 10 - k = 0 by omega, bfFrom] at this
          exact this.symm
        have hlt' : ¬ (k : Int) ≤ 9 := by omega
        clear HR
        go_wp2_with fail
        go_ret
        exact ⟨ret_int HR2.out.symm, hbel⟩

set_option maxHeartbeats 800000 in
theorem bound_in (b : Nat) (v : Value) (xs : List Int) (q : Nat) (hq : q < 10) (w : World) (h : Rd w v xs) (hc : w.cell? ⟨b, 0, none⟩ = some v) :
    Calls Try.prog 40 #[.int .i64 q, .pointer (some ⟨b, 0, none⟩)] w fun e w' => e = .returned (.bool (decide (WO xs q ≤ ((2 ^ q : Nat) : Int)))) ∧ Below w.heap.size w w' := by
  obtain ⟨P, hP, hP2, hsh⟩ := shl_fact q hq
  have hsh2 := shl_fact2 q P hP hP2
  rw [← hP]
  have hW := WO_bd xs q
  have kw := Lib.hid (fun w' (b : Below w.heap.size w w') => impl_WeightOf v xs q w' (h.below b))
  generalize WO xs q = W at *
  have hm0 : (0 : Int) ≤ (q : Int) := by omega
  have hm1 : (q : Int) < 64 := by omega
  clear hP h
  go_enter Try.func40, Try.ntmps40
  go_wp2_with fail
  go_region_with (first | (go_at_call 19; (with_reducible refine (kw.out _ (by first | exact Below.refl _ _ | exact (Below.refl _ _).drew)).mono ?_); rintro e w1 ⟨rfl, hb1⟩))
  all_goals
    go_wp2_with fail
    go_ret
    exact ⟨rfl, by first | exact hb1 | exact (Below.refl _ _).drew.trans hb1⟩

set_option maxHeartbeats 800000 in
theorem fewest_any (b : Nat) (v : Value) (xs : List Int) (w : World) (h : Rd w v xs) (hc : w.cell? ⟨b, 0, none⟩ = some v) :
    Calls Try.prog 39 #[v, .func (Fn.func 40) #[] #[.pointer (some ⟨b, 0, none⟩)]] w fun e w' => e = .returned (.int .i64 (BF xs)) ∧ Below w.heap.size w w' := by
  have k0 := Lib.hid (impl_KnownOk v xs w h)
  have hbl := World.block_lt_of_cell? w _ hc
  have kb := Lib.hid (fun w' (q : Nat) (hq : q < 10) (bl : Below w.heap.size w w') => bound_in b v xs q hq w' (h.below bl) ((bl.cell (p := ⟨b, 0, none⟩) hbl).trans hc))
  obtain ⟨R, hR⟩ : ∃ R, R = BF xs := ⟨_, rfl⟩
  rw [← hR]
  cases hk : KOk xs with
  | false =>
    have e : R = -1 := by rw [hR]; unfold BF; rw [hk]; rfl
    rw [hk] at k0
    rw [e]
    clear h hk e hR hc
    go_enter Try.func39, Try.ntmps39
    go_wp2_with (first | (go_at_call 14; (with_reducible refine k0.out.mono ?_); rintro e w1 ⟨rfl, hb⟩))
    go_ret
    exact ⟨rfl, hb⟩
  | true =>
    have e : R = bfFrom xs 0 10 := by rw [hR]; unfold BF; rw [hk]; rfl
    have HE := Lib.hid e
    rw [hk] at k0
    clear h hk e hR hc
    go_enter Try.func39, Try.ntmps39
    go_wp2_with (first | (go_at_call 14; (with_reducible refine k0.out.mono ?_); rintro e w1 ⟨rfl, hb1⟩))
    go_loopw [9] (fun q wr => ∃ k : Nat, k ≤ 10 ∧ q = .int .i64 k ∧ Below w.heap.size w wr ∧ Hid (bfFrom xs k (10 - k) = R)) (fun q _ => 10 - (intOf q).toNat)
    case atStart => exact ⟨0, by omega, rfl, hb1, HE.out.symm⟩
    case round =>
      clear hb1
      obtain ⟨k, hk, rfl, hbel, HR⟩ := hrel
      by_cases hlt : k < 10
      · have k2 := Lib.hid (kb.out wr k hlt hbel)
        by_cases hle : WO xs k ≤ ((2 ^ k : Nat) : Int)
        · have HR2 : Hid ((k : Int) = R) := by
            have := HR.out
            rw [show 10 - k = (10 - (k + 1)) + 1 by omega, bfFrom, if_pos hle] at this
            exact this
          rw [decide_eq_true hle] at k2
          clear HR hle
          go_wp2_with (first | (go_at_call 40; (with_reducible refine k2.out.mono ?_); rintro e w1 ⟨rfl, hb1⟩))
          go_ret
          exact ⟨ret_int HR2.out, hbel.trans (hb1.mono hbel.size)⟩
        · have HR2 : Hid (bfFrom xs (k + 1) (10 - (k + 1)) = R) := by
            have := HR.out
            rw [show 10 - k = (10 - (k + 1)) + 1 by omega, bfFrom, if_neg hle] at this
            exact this
          rw [decide_eq_false hle] at k2
          clear HR hle
          go_wp2_with (first | (go_at_call 40; (with_reducible refine k2.out.mono ?_); rintro e w1 ⟨rfl, hb1⟩))
          go_roundw
          case rel => exact ⟨k + 1, by omega, by go_num, hbel.trans (hb1.mono hbel.size), HR2⟩
          case measure => simp [intOf]; omega
      · have HR2 : Hid (R = -1) := by
          have := HR.out
          rw [show 10 - k = 0 by omega, bfFrom] at this
          exact this.symm
        clear HR
        go_wp2_with fail
        go_ret
        exact ⟨ret_int HR2.out.symm, hbel⟩

theorem impl_BoundFor (v : Value) (xs : List Int) (w : World) (h : Rd w v xs) :
    Calls Try.prog 21 #[v] w fun e w' => e = .returned (.int .i64 (BF xs)) ∧ Below w.heap.size w w' := by
  have hb : Below w.heap.size w (w.alloc (.cells #[v] 22)) := (Below.refl _ _).alloc (Nat.le_refl _) _
  have k := Lib.hid (fewest_any w.heap.size v xs (w.alloc (.cells #[v] 22)) (h.below hb) (by simp))
  have HB := Lib.hid hb
  obtain ⟨a, ca, rfl, _, _⟩ := h
  clear hb
  go_enter Try.func21, Try.ntmps21
  go_wp2_with (first | (go_at_call 39; (with_reducible refine k.out.mono ?_); rintro e w1 ⟨rfl, hb1⟩))
  go_ret
  exact ⟨rfl, HB.out.trans (hb1.mono (by simp))⟩

theorem law_FnExactBoundFor (a0 : Option Addr) (len0 cap0 : Nat) (z0 : List Int) (w : World) (w0 : IsRow .i64 w a0 len0 cap0 z0) :
    Calls Try.prog 6 #[.slice a0 len0 cap0] w fun e w' => e = .returned (.bool true) ∧ Below w.heap.size w w' := by
  obtain ⟨hr, hm, hlen⟩ := Rd.of_row w0
  clear w0
  generalize z0.take len0 = xs at *
  by_cases hl : 1048576 < len0
  · unfold maxLen at hm
    go_enter Try.func6, Try.ntmps6
    go_wp2_with fail
    go_ret
    exact ⟨rfl, Below.refl _ _⟩
  · have hx : xs.length ≤ 1048576 := by omega
    clear hlen hm
    have hr0 := Lib.hid hr
    clear hr
    go_enter Try.func6, Try.ntmps6
    go_wp2_with fail
    refine (toIntS_any _ xs _ hr0.out hx).mono ?_
    rintro e w1 ⟨u1, rfl, o1, hb1⟩
    have hr1 := Lib.hid (hr0.out.below hb1)
    go_wp2_with fail
    refine (spec_BoundFor _ xs _ o1.rd hx).mono ?_
    rintro e w2 ⟨rfl, hb2⟩
    have hr2 := Lib.hid (hr1.out.below hb2)
    have hb1 := hb1.trans (hb2.mono hb1.size)
    go_wp2_with fail
    refine (toIntS_any _ xs _ hr2.out hx).mono ?_
    rintro e w3 ⟨u3, rfl, o3, hb3⟩
    have hr3 := Lib.hid (hr2.out.below hb3)
    go_wp2_with fail
    refine (impl_BoundFor _ xs _ o3.rd).mono ?_
    rintro e w4 ⟨rfl, hb4⟩
    have hr4 := Lib.hid (hr3.out.below hb4)
    have o4 := o3.below hb4
    go_wp2_with fail
    refine (toIntS_any _ xs _ hr4.out hx).mono ?_
    rintro e w5 ⟨u5, rfl, o5, hb5⟩
    have o5' := o4.below hb5
    go_wp2_with fail
    refine (eqIntS_yes _ _ xs _ o5'.rd o5.rd).mono ?_
    rintro e w6 ⟨rfl, hb6⟩
    go_wp2_with fail
    go_ret
    have s1 := hb1.size
    have s3 := hb3.size
    have s4 := hb4.size
    have s5 := hb5.size
    exact ⟨rfl, hb1.trans ((hb3.mono s1).trans ((hb4.mono (by omega)).trans ((hb5.mono (by omega)).trans (hb6.mono (by omega)))))⟩
end Go.Proofs.Ytfhklaoemfhamaa
