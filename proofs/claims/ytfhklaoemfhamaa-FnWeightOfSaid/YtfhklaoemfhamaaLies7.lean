/- WeightOf. -/
import Derived.Test.YtfhklaoemfhamaaProg
import Derived.Test.YtfhklaoemfhamaaLies2
namespace Go.Proofs.Ytfhklaoemfhamaa
open Go.RowKit

/-- ways to choose k of q -/
def Cc (q : Nat) : Nat → Nat
  | 0 => 1
  | k + 1 => Cc q k * (q - k) / (k + 1)
/-- ways to choose fewer than k of q -/
def Ws (q : Nat) : Nat → Nat
  | 0 => 0
  | k + 1 => Ws q k + Cc q k

theorem Cc_le : ∀ q, q < 10 → ∀ k, k < 4 → Cc q k ≤ 126 ∧ Cc q k * (q - k) ≤ 2000 := by decide
theorem Cc_zero : ∀ q, q < 10 → ∀ k, k < 4 → q < k → Cc q k = 0 := by decide
theorem Ws_le : ∀ q, q < 10 → ∀ k, k < 4 → Ws q k ≤ 50 := by decide
theorem Ws_end : ∀ q, q < 10 → ∀ m, m < 3 → q ≤ m → Ws q (q + 1) = Ws q (m + 1) := by decide

theorem Cc_step (q k : Nat) (h : k ≤ q) : (Cc q k : Int) * ((q : Int) - (k : Int)) / ((k : Int) + 1) = (Cc q (k + 1) : Int) := by
  have e : (q : Int) - (k : Int) = ((q - k : Nat) : Int) := by omega
  rw [e, Cc]
  simp only [Int.natCast_ediv, Int.natCast_mul, Int.natCast_add, Int.natCast_one]
theorem Cc_prod (q k : Nat) (h : k ≤ q) (hq : q < 10) (hk : k < 4) : 0 ≤ (Cc q k : Int) * ((q : Int) - (k : Int)) ∧ (Cc q k : Int) * ((q : Int) - (k : Int)) ≤ 2000 := by
  have e : (q : Int) - (k : Int) = ((q - k : Nat) : Int) := by omega
  have := (Cc_le q hq k hk).2
  rw [e]
  have h2 : (Cc q k : Int) * ((q - k : Nat) : Int) = ((Cc q k * (q - k) : Nat) : Int) := by simp
  rw [h2]; omega

set_option maxHeartbeats 800000 in
theorem spec_l5Choices (q m : Nat) (hq : q < 10) (hm : m < 3) (w : World) : Calls Try.prog 37 #[.int .i64 q, .int .i64 m] w fun e w' => e = .returned (.int .i64 (Ws q (m + 1))) ∧ w = w' := by
  go_enter Try.func37, Try.ntmps37
  go_wp2_with fail
  go_loop [5, 6, 7] (fun n c v => ∃ k : Nat, k ≤ m + 1 ∧ k ≤ q + 1 ∧ v = .int .i64 k ∧ n = .int .i64 (Ws q k) ∧ c = .int .i64 (Cc q k)) (fun _ _ v => m + 1 - (intOf v).toNat)
  case atStart => exact ⟨0, by omega, by omega, rfl, rfl, rfl⟩
  case round =>
    obtain ⟨k, hk, hkq, rfl, rfl, rfl⟩ := hrel
    have hW := Ws_le q hq k (by omega)
    have hC := (Cc_le q hq k (by omega)).1
    by_cases h1 : k ≤ m
    · by_cases h2 : k ≤ q
      · have HS := Lib.hid (Cc_step q k h2)
        obtain ⟨p0, p1⟩ := Cc_prod q k h2 hq (by omega)
        have HN : Hid (Ws q (k + 1) = Ws q k + Cc q k) := rfl
        generalize Ws q k = n at *
        generalize Cc q k = c at *
        go_wp2_with fail
        go_round
        case rel => exact ⟨k + 1, by omega, by omega, by go_num, by rw [HN.out]; go_num, by rw [← HS.out]⟩
        case measure => simp [intOf]; omega
      · have HE : Hid (Ws q k = Ws q (m + 1)) := by
          have : k = q + 1 := by omega
          rw [this]; exact Ws_end q hq m hm (by omega)
        have h2' : ¬ (k : Int) ≤ (q : Int) := by omega
        clear h2
        go_wp2_with fail
        go_ret
        exact ⟨ret_int (by rw [HE.out]), rfl⟩
    · have HE : Hid (k = m + 1) := by show _ = _; omega
      have h1' : ¬ (k : Int) ≤ (m : Int) := by omega
      clear h1
      go_wp2_with fail
      go_ret
      exact ⟨ret_int (by rw [HE.out]), rfl⟩

set_option maxHeartbeats 800000 in
theorem impl_choose (q m : Nat) (hq : q < 10) (hm : m < 3) (w : World) : Calls Try.prog 51 #[.int .i64 q, .int .i64 m] w fun e w' => e = .returned (.int .i64 (Cc q m)) ∧ w = w' := by
  by_cases h : m ≤ q
  · go_enter Try.func51, Try.ntmps51
    go_wp2_with (first | (go_at_call 34; refine (in_yes _ _ _ _ (by omega) (by omega)).mono ?_; rintro e w' ⟨rfl, rfl⟩))
    go_loop [5, 12] (fun c v => ∃ k : Nat, k ≤ m ∧ v = .int .i64 k ∧ c = .int .i64 (Cc q k)) (fun _ v => m - (intOf v).toNat)
    case atStart => exact ⟨0, by omega, rfl, rfl⟩
    case round =>
      obtain ⟨k, hk, rfl, rfl⟩ := hrel
      have hC := (Cc_le q hq k (by omega)).1
      by_cases h1 : k < m
      · have HS := Lib.hid (Cc_step q k (by omega))
        obtain ⟨p0, p1⟩ := Cc_prod q k (by omega) hq (by omega)
        generalize Cc q k = c at *
        go_wp2_with fail
        go_round
        case rel => exact ⟨k + 1, by omega, by go_num, by rw [← HS.out]⟩
        case measure => simp [intOf]; omega
      · have HE : Hid (k = m) := by show _ = _; omega
        go_wp2_with fail
        go_ret
        exact ⟨ret_int (by rw [HE.out]), rfl⟩
  · rw [Cc_zero q hq m (by omega) (by omega)]
    go_enter Try.func51, Try.ntmps51
    go_wp2_with (first | (go_at_call 34; refine (in_no _ _ _ _ (by omega)).mono ?_; rintro e w' ⟨rfl, rfl⟩))
    go_ret
    exact ⟨rfl, rfl⟩

set_option maxHeartbeats 800000 in
theorem impl_atMost (q m : Nat) (hq : q < 10) (hm : m < 3) (w : World) : Calls Try.prog 38 #[.int .i64 q, .int .i64 m] w fun e w' => e = .returned (.int .i64 (Ws q (m + 1))) ∧ w = w' := by
  go_enter Try.func38, Try.ntmps38
  go_wp2_with fail
  go_loop [5, 6] (fun n v => ∃ k : Nat, k ≤ m + 1 ∧ v = .int .i64 k ∧ n = .int .i64 (Ws q k)) (fun _ v => m + 1 - (intOf v).toNat)
  case atStart => exact ⟨0, by omega, rfl, rfl⟩
  case round =>
    obtain ⟨k, hk, rfl, rfl⟩ := hrel
    have hW := Ws_le q hq k (by omega)
    by_cases h1 : k ≤ m
    · have hC := (Cc_le q hq k (by omega)).1
      have kc := Lib.hid (impl_choose q k hq (by omega))
      have HN : Hid (Ws q (k + 1) = Ws q k + Cc q k) := rfl
      generalize Ws q k = n at *
      generalize Cc q k = c at *
      go_wp2_with (first | (go_at_call 51; (with_reducible refine (kc.out _).mono ?_); rintro e w' ⟨rfl, rfl⟩))
      go_round
      case rel => exact ⟨k + 1, by omega, by go_num, by rw [HN.out]; go_num⟩
      case measure => simp [intOf]; omega
    · have HE : Hid (k = m + 1) := by show _ = _; omega
      have h1' : ¬ (k : Int) ≤ (m : Int) := by omega
      clear h1
      go_wp2_with fail
      go_ret
      exact ⟨ret_int (by rw [HE.out]), rfl⟩

/-- the weight of the first k numbers -/
def WS (xs : List Int) (q : Nat) : Nat → Int
  | 0 => 0
  | k + 1 => WS xs q k + xs.getD k 0 * (Ws q (k + 1) : Int)
def WO (xs : List Int) (q : Int) : Int := if KOk xs = true ∧ 0 ≤ q ∧ q ≤ 9 then WS xs q.toNat xs.length else -1
theorem WO_in {xs : List Int} {q : Nat} (h : KOk xs = true) (hq : q < 10) : WO xs q = WS xs q xs.length := by unfold WO; rw [if_pos ⟨h, by omega, by omega⟩]; simp
theorem WO_out {xs : List Int} {q : Int} (h : ¬ (KOk xs = true ∧ 0 ≤ q ∧ q ≤ 9)) : WO xs q = -1 := by unfold WO; rw [if_neg h]

theorem WS_bd {xs : List Int} {q : Nat} (h : KOk xs = true) (hq : q < 10) : ∀ k, k ≤ xs.length → 0 ≤ WS xs q k ∧ WS xs q k ≤ 500 * k := by
  intro k
  induction k with
  | zero => intro _; simp [WS]
  | succ k ih =>
    intro hk
    have h1 := ih (by omega)
    have h2 := KOk_bd h k (by omega)
    have h3 := (KOk_len h).2
    have h4 := Ws_le q hq (k + 1) (by omega)
    have h5 : 0 ≤ xs.getD k 0 * (Ws q (k + 1) : Int) := Int.mul_nonneg h2.1 (by omega)
    have h6 : xs.getD k 0 * (Ws q (k + 1) : Int) ≤ 10 * 50 := Int.mul_le_mul h2.2 (by omega) (by omega) (by omega)
    rw [WS]
    omega

set_option maxHeartbeats 1600000 in
theorem spec_WeightOf (v : Value) (xs : List Int) (q : Int) (w : World) (h : Rd w v xs) (hxl : xs.length ≤ 1048576) :
    Calls Try.prog 18 #[v, .int .i64 q] w fun e w' => e = .returned (.int .i64 (WO xs q)) ∧ Below w.heap.size w w' := by
  have k0 := Lib.hid (spec_KnownOk v xs w h hxl)
  cases hk : KOk xs with
  | false =>
    rw [WO_out (by simp [hk])]
    rw [hk] at k0
    clear h hk
    go_enter Try.func18, Try.ntmps18
    go_wp2_with (first | (go_at_call 12; (with_reducible refine k0.out.mono ?_); rintro e w' ⟨rfl, rfl⟩))
    go_ret
    exact ⟨rfl, Below.refl _ _⟩
  | true =>
    rw [hk] at k0
    by_cases hq : 0 ≤ q ∧ q ≤ 9
    · obtain ⟨hq0, hq1⟩ := hq
      obtain ⟨q, rfl⟩ := Int.eq_ofNat_of_zero_le hq0
      rw [WO_in hk (by omega)]
      have hl := KOk_len hk
      have HB := Lib.hid (WS_bd (q := q) hk (by omega))
      have HX := Lib.hid (KOk_bd hk)
      have hne : xs ≠ [] := by intro e; rw [e] at hl; simp at hl
      obtain ⟨a, ca, rfl, hm, ha⟩ := h
      obtain ⟨g, off, rfl, hc⟩ := ha hne
      have HC := Lib.hid hc
      obtain ⟨hl1, hl2⟩ := hl
      clear ha hc hk hm hne hxl
      go_enter Try.func18, Try.ntmps18
      go_wp2_with (first
        | (go_at_call 12; (with_reducible refine k0.out.mono ?_); rintro e w' ⟨rfl, rfl⟩)
        | (go_at_call 33; refine (l1In_yes _ _ _ _ (by omega) (by omega)).mono ?_; rintro e w' ⟨rfl, rfl⟩))
      go_loopw [5, 6] (fun n v wr => ∃ k : Nat, k ≤ xs.length ∧ v = .int .i64 k ∧ n = .int .i64 (WS xs q k) ∧ Below w.heap.size w wr) (fun _ v _ => xs.length - (intOf v).toNat)
      case atStart => exact ⟨0, by omega, rfl, rfl, Below.refl _ _⟩
      case round =>
        obtain ⟨k, hk, rfl, rfl, hbel⟩ := hrel
        by_cases h1 : k < xs.length
        · have hck0 := HC.out k h1
          have hck := (hbel.cell (p := ⟨g, off + k, none⟩) (World.block_lt_of_cell? w _ hck0)).trans hck0
          clear hck0
          have hb := HB.out k (by omega)
          have hx := HX.out k h1
          have hW := Ws_le q (by omega) (k + 1) (by omega)
          have kc := Lib.hid (spec_l5Choices q k (by omega) (by omega))
          have p0 : 0 ≤ xs.getD k 0 * (Ws q (k + 1) : Int) := Int.mul_nonneg hx.1 (by omega)
          have p1 : xs.getD k 0 * (Ws q (k + 1) : Int) ≤ 10 * 50 := Int.mul_le_mul hx.2 (by omega) (by omega) (by omega)
          have HN : Hid (WS xs q (k + 1) = WS xs q k + xs.getD k 0 * (Ws q (k + 1) : Int)) := rfl
          generalize WS xs q k = n at *
          generalize xs.getD k 0 = x at *
          generalize Ws q (k + 1) = W at *
          have hi0 : (0 : Int) ≤ (k : Int) := by omega
          have hi1 : (k : Int) < (xs.length : Int) := by omega
          have a1 : IntKind.i64.wrap (x * (W : Int)) = x * W := IntWalk.i64_in _ (by omega)
          have a2 : IntKind.i64.wrap (n + x * (W : Int)) = n + x * W := IntWalk.i64_in _ (by omega)
          go_wp2_with fail
          go_quiet ((go_at_call 37; exact Calls.quiet_of_same ((kc.out _).mono (fun _ _ h => ⟨h.1, h.2.symm⟩))))
          clear a1 a2
          go_wp2_with fail
          go_roundw
          case rel => exact ⟨k + 1, by omega, by go_num, by rw [HN.out], below_drewN hbel _⟩
          case measure => simp [intOf]; omega
        · have HE : Hid (k = xs.length) := by show _ = _; omega
          go_wp2_with fail
          go_ret
          exact ⟨ret_int (by rw [HE.out]), hbel⟩
    · rw [WO_out (by omega)]
      clear hk
      go_enter Try.func18, Try.ntmps18
      go_wp2_with (first
        | (go_at_call 12; (with_reducible refine k0.out.mono ?_); rintro e w' ⟨rfl, rfl⟩)
        | (go_at_call 33; refine (l1In_no _ _ _ _ (by omega)).mono ?_; rintro e w' ⟨rfl, rfl⟩))
      go_ret
      exact ⟨rfl, Below.refl _ _⟩

set_option maxHeartbeats 1600000 in
theorem impl_WeightOf (v : Value) (xs : List Int) (q : Int) (w : World) (h : Rd w v xs) :
    Calls Try.prog 19 #[v, .int .i64 q] w fun e w' => e = .returned (.int .i64 (WO xs q)) ∧ Below w.heap.size w w' := by
  have k0 := Lib.hid (impl_KnownOk v xs w h)
  cases hk : KOk xs with
  | false =>
    rw [WO_out (by simp [hk])]
    rw [hk] at k0
    clear h hk
    go_enter Try.func19, Try.ntmps19
    go_wp2_with (first | (go_at_call 14; (with_reducible refine k0.out.mono ?_); rintro e w1 ⟨rfl, hb⟩))
    go_ret
    exact ⟨rfl, hb⟩
  | true =>
    rw [hk] at k0
    by_cases hq : 0 ≤ q ∧ q ≤ 9
    · obtain ⟨hq0, hq1⟩ := hq
      obtain ⟨q, rfl⟩ := Int.eq_ofNat_of_zero_le hq0
      rw [WO_in hk (by omega)]
      have hl := KOk_len hk
      have HB := Lib.hid (WS_bd (q := q) hk (by omega))
      have HX := Lib.hid (KOk_bd hk)
      have hne : xs ≠ [] := by intro e; rw [e] at hl; simp at hl
      obtain ⟨a, ca, rfl, hm, ha⟩ := h
      obtain ⟨g, off, rfl, hc⟩ := ha hne
      have HC := Lib.hid hc
      obtain ⟨hl1, hl2⟩ := hl
      clear ha hc hk hm hne
      go_enter Try.func19, Try.ntmps19
      go_wp2_with (first
        | (go_at_call 14; (with_reducible refine k0.out.mono ?_); rintro e w1 ⟨rfl, hb1⟩)
        | (go_at_call 34; refine (in_yes _ _ _ _ (by omega) (by omega)).mono ?_; rintro e w' ⟨rfl, rfl⟩))
      go_loop [5, 18] (fun n v => ∃ k : Nat, k ≤ xs.length ∧ v = .int .i64 k ∧ n = .int .i64 (WS xs q k)) (fun _ v => xs.length - (intOf v).toNat)
      case atStart => exact ⟨0, by omega, rfl, rfl⟩
      case round =>
        obtain ⟨k, hk, rfl, rfl⟩ := hrel
        by_cases h1 : k < xs.length
        · have hck0 := HC.out k h1
          have hck := (hb1.cell (p := ⟨g, off + k, none⟩) (World.block_lt_of_cell? w _ hck0)).trans hck0
          clear hck0
          have hb := HB.out k (by omega)
          have hx := HX.out k h1
          have hW := Ws_le q (by omega) (k + 1) (by omega)
          have kc := Lib.hid (impl_atMost q k (by omega) (by omega))
          have p0 : 0 ≤ xs.getD k 0 * (Ws q (k + 1) : Int) := Int.mul_nonneg hx.1 (by omega)
          have p1 : xs.getD k 0 * (Ws q (k + 1) : Int) ≤ 10 * 50 := Int.mul_le_mul hx.2 (by omega) (by omega) (by omega)
          have HN : Hid (WS xs q (k + 1) = WS xs q k + xs.getD k 0 * (Ws q (k + 1) : Int)) := rfl
          generalize WS xs q k = n at *
          generalize xs.getD k 0 = x at *
          generalize Ws q (k + 1) = W at *
          have hi0 : (0 : Int) ≤ (k : Int) := by omega
          have hi1 : (k : Int) < (xs.length : Int) := by omega
          go_wp2_with (first | (go_at_call 38; (with_reducible refine (kc.out _).mono ?_); rintro e w' ⟨rfl, rfl⟩))
          go_round
          case rel => exact ⟨k + 1, by omega, by go_num, by rw [HN.out]⟩
          case measure => simp [intOf]; omega
        · have HE : Hid (k = xs.length) := by show _ = _; omega
          go_wp2_with fail
          go_ret
          exact ⟨ret_int (by rw [HE.out]), hb1⟩
    · rw [WO_out (by omega)]
      clear hk
      go_enter Try.func19, Try.ntmps19
      go_wp2_with (first
        | (go_at_call 14; (with_reducible refine k0.out.mono ?_); rintro e w1 ⟨rfl, hb1⟩)
        | (go_at_call 34; refine (in_no _ _ _ _ (by omega)).mono ?_; rintro e w' ⟨rfl, rfl⟩))
      go_ret
      exact ⟨rfl, hb1⟩

theorem law_FnExactWeightOf (a0 : Option Addr) (len0 cap0 : Nat) (z0 : List Int) (b0 : Int) (w : World) (w0 : IsRow .i64 w a0 len0 cap0 z0) (_ : (Lit.int .i64 b0).wf = true) :
    Calls Try.prog 5 #[.slice a0 len0 cap0, .int .i64 b0] w fun e w' => e = .returned (.bool true) ∧ Below w.heap.size w w' := by
  obtain ⟨hr, hm, hlen⟩ := Rd.of_row w0
  clear w0
  generalize z0.take len0 = xs at *
  by_cases hl : 1048576 < len0
  · unfold maxLen at hm
    go_enter Try.func5, Try.ntmps5
    go_wp2_with fail
    go_ret
    exact ⟨rfl, Below.refl _ _⟩
  · have hx : xs.length ≤ 1048576 := by omega
    clear hlen hm
    have hr0 := Lib.hid hr
    clear hr
    go_enter Try.func5, Try.ntmps5
    go_wp2_with fail
    refine (toIntS_any _ xs _ hr0.out hx).mono ?_
    rintro e w1 ⟨u1, rfl, o1, hb1⟩
    have hr1 := Lib.hid (hr0.out.below hb1)
    go_wp2_with fail
    refine (spec_WeightOf _ xs _ _ o1.rd hx).mono ?_
    rintro e w2 ⟨rfl, hb2⟩
    have hr2 := Lib.hid (hr1.out.below hb2)
    have hb1 := hb1.trans (hb2.mono hb1.size)
    go_wp2_with fail
    refine (toIntS_any _ xs _ hr2.out hx).mono ?_
    rintro e w3 ⟨u3, rfl, o3, hb3⟩
    have hr3 := Lib.hid (hr2.out.below hb3)
    go_wp2_with fail
    refine (impl_WeightOf _ xs _ _ o3.rd).mono ?_
    rintro e w4 ⟨rfl, hb4⟩
    have hr4 := Lib.hid (hr3.out.below hb4)
    have o4 := o3.below hb4
    go_wp2_with fail
    refine (toIntS_any _ xs _ hr4.out hx).mono ?_
    rintro e w5 ⟨u5, rfl, o5, hb5⟩
    have o5' := o4.below hb5
    go_wp2_with fail
    refine (eqIntS_yes _ _ xs _ o5'.rd o5.rd).mono ?_
    rintro e w6 ⟨rfl, hb6⟩
    go_wp2_with fail
    go_ret
    have s1 := hb1.size
    have s3 := hb3.size
    have s4 := hb4.size
    have s5 := hb5.size
    exact ⟨rfl, hb1.trans ((hb3.mono s1).trans ((hb4.mono (by omega)).trans ((hb5.mono (by omega)).trans (hb6.mono (by omega)))))⟩
end Go.Proofs.Ytfhklaoemfhamaa
