import Derived.Test.YtpmbioeemkioaaaProg
import Derived.Test.YtpmbioeemkioaaaMem
import Derived.Test.YtpmbioeemkioaaaBase
namespace Go.Proofs.Ytpmbioeemkioaaa
open Go.RowKit
/-- how many floors can be told apart -/
def Ap : Nat → Nat → Nat
  | 0, _ => 1
  | _ + 1, 0 => 1
  | c + 1, d + 1 => Ap c d + Ap (c + 1) d

theorem Ap_zero (c : Nat) : Ap c 0 = 1 := by cases c <;> rfl
theorem Ap_le (c d : Nat) : Ap c d ≤ 2 ^ d := by
  induction d generalizing c with
  | zero => rw [Ap_zero]; exact Nat.le_refl _
  | succ d ih =>
    cases c with
    | zero => simp [Ap, Nat.one_le_two_pow]
    | succ c => have h1 := ih c; have h2 := ih (c + 1); rw [Ap, Nat.pow_succ]; omega

theorem Ap_small (c d : Nat) (hd : d ≤ 14) : Ap c d ≤ 16384 := by
  have h1 := Ap_le c d
  have h2 : 2 ^ d ≤ 2 ^ 14 := Nat.pow_le_pow_right (by omega) hd
  omega

theorem Try.infoI : (Try.prog.info? 3).map (fun i => (i.zero, i.size, i.bytes)) = some (some (.int .i64 0), 1, 8) := by kernel_rfl

set_option maxHeartbeats 400000 in
theorem apart_any (c d : Nat) (hc : c ≤ 8) (hd : d ≤ 14) (w : World) : Calls Try.prog 40 #[.int .i64 c, .int .i64 d] w fun e w' => e = .returned (.int .i64 (Ap c d)) ∧ Below w.heap.size w w' := by
  obtain ⟨i0, hi, hz0, hz1, hz2⟩ := info_parts Try.infoI
  obtain ⟨B, hB⟩ : ∃ B, B = w.heap.size := ⟨_, rfl⟩
  have HB := Lib.hid hB
  go_enter Try.func40, Try.ntmps40
  go_wp2_with (first | (at_make; go_loud (refine wpList_make_full _ rfl _ _ 28 rfl w.heap.size 3 i0 (.int .i64 0) 1 Try.underlying28 hi hz0 hz1 .i64 .i64 _ _ (c+1) rfl rfl (by omega) (by omega) (by rw [hz2]; omega) (by unfold maxLen; omega) (Nat.le_refl _) ?_); intro w1 hown hgrow))
  have hrow := RowAt.made hown
  have hbel := grown_below hgrow
  clear hown hgrow hi hz0 hz1 hz2
  rw [← hB] at hrow hbel ⊢
  clear hB
  go_loopw [13] (fun v wr => ∃ k : Nat, k ≤ c + 1 ∧ v = .int .i64 k ∧ RowAt wr B (c + 1) (fun j => if j < k then 1 else 0) ∧ Below B w wr) (fun v _ => c + 1 - (intOf v).toNat)
  case atStart => exact ⟨0, by omega, rfl, by simpa using hrow, hbel⟩
  case round =>
    obtain ⟨k, hk, rfl, hr, hb⟩ := hrel
    clear hrow hbel
    by_cases hlt : k < c + 1
    · have hf := hr.free k hlt
      have hc := hr.cell k hlt
      go_wp2
      go_roundw
      case rel => 
        refine ⟨k + 1, by omega, by go_num, (hr.set k 1).congr ?_, hb.setCell (by simp) _⟩
        intro j hj
        by_cases e : j = k
        · simp [e]
        · have : (j < k + 1) ↔ (j < k) := by omega
          simp [e, this]
      case measure => simp [intOf]; omega
    · have hk : k = c + 1 := by omega
      have hr0 : RowAt wr B (c + 1) (fun j => (Ap j 0 : Int)) := hr.congr (fun j hj => by simp [Ap_zero]; omega)
      clear hr hk
      go_wp2
      go_loopw [21] (fun v wr => ∃ e : Nat, e ≤ d ∧ v = .int .i64 e ∧ RowAt wr B (c + 1) (fun j => (Ap j e : Int)) ∧ Below B w wr) (fun v _ => d - (intOf v).toNat)
      case atStart => exact ⟨0, by omega, rfl, hr0, hb⟩
      case round =>
        clear hr0 hb
        obtain ⟨e, he, rfl, hr, hb⟩ := hrel
        by_cases hlt : e < d
        · go_wp2
          go_loopw [7] (fun v wr => ∃ i : Nat, i ≤ c ∧ v = .int .i64 i ∧ RowAt wr B (c + 1) (fun j => if i < j then (Ap j (e+1) : Int) else (Ap j e : Int)) ∧ Below B w wr) (fun v _ => (intOf v).toNat)
          case atStart => exact ⟨c, by omega, rfl, hr.congr (fun j hj => by rw [if_neg (by omega)]), hb⟩
          case round =>
            clear hr hb
            obtain ⟨i, hi, rfl, hr, hb⟩ := hrel
            cases i with
            | zero =>
              go_wp2
              go_roundw
              case rel => 
                refine ⟨e + 1, by omega, by go_num, hr.congr ?_, hb⟩
                intro j hj
                cases j with
                | zero => simp [Ap]
                | succ j => simp
              case measure => simp [intOf]; omega
            | succ m =>
              have hc1 := hr.cell (m+1) (by omega)
              have hc0 := hr.cell m (by omega)
              have hf1 := hr.free (m+1) (by omega)
              have b1 := Ap_small (m+1) e (by omega)
              have b0 := Ap_small m e (by omega)
              simp only [Nat.lt_irrefl, if_false, show ¬ (m + 1 < m) by omega] at hc1 hc0
              go_wp2
              go_region
              all_goals (go_wp2; go_roundw)
              case rel =>
                refine ⟨m, by omega, rfl, ((hr.set (m + 1) _).congr ?_).drew, (hb.setCell (by simp) _).drew⟩
                intro j hj
                by_cases ej : j = m + 1
                · subst ej; simp [Ap]; omega
                · by_cases l : m < j
                  · simp [ej, l, show m + 1 < j by omega]
                  · simp [ej, l, show ¬ m + 1 < j by omega]
              case measure => simp [intOf]
        · have hed : e = d := by omega
          have hcc := hr.cell c (by omega)
          go_wp2
          go_ret
          exact ⟨rfl, by rw [← HB.out]; exact hb⟩

def TA (c d : Int) : Int := if 0 ≤ c ∧ c ≤ 8 ∧ 0 ≤ d ∧ d ≤ 14 then (Ap c.toNat d.toNat : Int) else -1

theorem TA_in (c d : Nat) (hc : c ≤ 8) (hd : d ≤ 14) : TA c d = Ap c d := by unfold TA; rw [if_pos (by omega)]; simp
theorem TA_out (c d : Int) (h : c < 0 ∨ 8 < c ∨ d < 0 ∨ 14 < d) : TA c d = -1 := by unfold TA; rw [if_neg (by omega)]

theorem impl_ToldApart (c d : Int) (w : World) : Calls Try.prog 16 #[.int .i64 c, .int .i64 d] w fun e w' => e = .returned (.int .i64 (TA c d)) ∧ Below w.heap.size w w' := by
  by_cases h1 : 0 ≤ c ∧ c ≤ 8
  · obtain ⟨h1, h2⟩ := h1
    by_cases h3 : 0 ≤ d ∧ d ≤ 14
    · obtain ⟨h3, h4⟩ := h3
      obtain ⟨c, rfl⟩ := Int.eq_ofNat_of_zero_le h1
      obtain ⟨d, rfl⟩ := Int.eq_ofNat_of_zero_le h3
      go_enter Try.func16, Try.ntmps16
      go_wp2_with (first 
        | (go_at_call 39; refine (in_yes _ _ _ _ (by omega) (by omega)).mono ?_; rintro e w' ⟨rfl, rfl⟩) 
        | (go_at_call 40; refine (apart_any _ _ (by omega) (by omega) _).mono ?_; rintro e w1 ⟨rfl, hb⟩))
      go_ret
      exact ⟨by rw [TA_in _ _ (by omega) (by omega)]; rfl, hb⟩
    · go_enter Try.func16, Try.ntmps16
      go_wp2_with (first 
        | (go_at_call 39; refine (in_yes _ _ _ _ (by omega) (by omega)).mono ?_; rintro e w' ⟨rfl, rfl⟩) 
        | (go_at_call 39; refine (in_no _ _ _ _ (by omega)).mono ?_; rintro e w' ⟨rfl, rfl⟩))
      go_ret
      exact ⟨by rw [TA_out _ _ (by omega)]; rfl, Below.refl _ _⟩
  · go_enter Try.func16, Try.ntmps16
    go_wp2_with (first 
      | (go_at_call 39; refine (in_no _ _ _ _ (by omega)).mono ?_; rintro e w' ⟨rfl, rfl⟩))
    go_ret
    exact ⟨by rw [TA_out _ _ (by omega)]; rfl, Below.refl _ _⟩
set_option maxHeartbeats 400000 in
theorem specTA_any (c d : Nat) (hc : c ≤ 8) (hd : d ≤ 14) (w : World) : Calls Try.prog 15 #[.int .i64 c, .int .i64 d] w fun e w' => e = .returned (.int .i64 (Ap c d)) ∧ Below w.heap.size w w' := by
  obtain ⟨i0, hi, hz0, hz1, hz2⟩ := info_parts Try.infoI
  obtain ⟨B, hB⟩ : ∃ B, B = w.heap.size := ⟨_, rfl⟩
  have HB := Lib.hid hB
  go_enter Try.func15, Try.ntmps15
  go_wp2_with (first | (go_at_call 38; refine (l1In_yes _ _ _ _ (by omega) (by omega)).mono ?_; rintro e w' ⟨rfl, rfl⟩) | (at_make; go_loud (refine wpList_make_full _ rfl _ _ 28 rfl w.heap.size 3 i0 (.int .i64 0) 1 Try.underlying28 hi hz0 hz1 .i64 .i64 _ _ (c+1) rfl rfl (by omega) (by omega) (by rw [hz2]; omega) (by unfold maxLen; omega) (Nat.le_refl _) ?_); intro w1 hown hgrow))
  have hrow := RowAt.made hown
  have hbel := grown_below hgrow
  clear hown hgrow hi hz0 hz1 hz2
  rw [← hB] at hrow hbel ⊢
  clear hB
  go_loopw [6] (fun v wr => ∃ k : Nat, k ≤ c + 1 ∧ v = .int .i64 k ∧ RowAt wr B (c + 1) (fun j => if j < k then 1 else 0) ∧ Below B w wr) (fun v _ => c + 1 - (intOf v).toNat)
  case atStart => exact ⟨0, by omega, rfl, by simpa using hrow, hbel⟩
  case round =>
    obtain ⟨k, hk, rfl, hr, hb⟩ := hrel
    clear hrow hbel
    by_cases hlt : k < c + 1
    · have hf := hr.free k hlt
      have hc := hr.cell k hlt
      go_wp2
      go_roundw
      case rel => 
        refine ⟨k + 1, by omega, by go_num, (hr.set k 1).congr ?_, hb.setCell (by simp) _⟩
        intro j hj
        by_cases e : j = k
        · simp [e]
        · have : (j < k + 1) ↔ (j < k) := by omega
          simp [e, this]
      case measure => simp [intOf]; omega
    · have hk : k = c + 1 := by omega
      have hr0 : RowAt wr B (c + 1) (fun j => (Ap j 0 : Int)) := hr.congr (fun j hj => by simp [Ap_zero]; omega)
      clear hr hk
      go_wp2
      go_loopw [7] (fun v wr => ∃ e : Nat, e ≤ d ∧ v = .int .i64 e ∧ RowAt wr B (c + 1) (fun j => (Ap j e : Int)) ∧ Below B w wr) (fun v _ => d - (intOf v).toNat)
      case atStart => exact ⟨0, by omega, rfl, hr0, hb⟩
      case round =>
        clear hr0 hb
        obtain ⟨e, he, rfl, hr, hb⟩ := hrel
        by_cases hlt : e < d
        · go_wp2
          go_loopw [8] (fun v wr => ∃ i : Nat, i ≤ c ∧ v = .int .i64 i ∧ RowAt wr B (c + 1) (fun j => if i < j then (Ap j (e+1) : Int) else (Ap j e : Int)) ∧ Below B w wr) (fun v _ => (intOf v).toNat)
          case atStart => exact ⟨c, by omega, rfl, hr.congr (fun j hj => by rw [if_neg (by omega)]), hb⟩
          case round =>
            clear hr hb
            obtain ⟨i, hi, rfl, hr, hb⟩ := hrel
            cases i with
            | zero =>
              go_wp2
              go_roundw
              case rel => 
                refine ⟨e + 1, by omega, by go_num, hr.congr ?_, hb⟩
                intro j hj
                cases j with
                | zero => simp [Ap]
                | succ j => simp
              case measure => simp [intOf]; omega
            | succ m =>
              have hc1 := hr.cell (m+1) (by omega)
              have hc0 := hr.cell m (by omega)
              have hf1 := hr.free (m+1) (by omega)
              have b1 := Ap_small (m+1) e (by omega)
              have b0 := Ap_small m e (by omega)
              simp only [Nat.lt_irrefl, if_false, show ¬ (m + 1 < m) by omega] at hc1 hc0
              go_wp2
              go_region
              all_goals (go_wp2; go_roundw)
              case rel =>
                refine ⟨m, by omega, rfl, ((hr.set (m + 1) _).congr ?_).drew, (hb.setCell (by simp) _).drew⟩
                intro j hj
                by_cases ej : j = m + 1
                · subst ej; simp [Ap]; omega
                · by_cases l : m < j
                  · simp [ej, l, show m + 1 < j by omega]
                  · simp [ej, l, show ¬ m + 1 < j by omega]
              case measure => simp [intOf]
        · have hed : e = d := by omega
          have hcc := hr.cell c (by omega)
          go_wp2
          go_ret
          exact ⟨rfl, by rw [← HB.out]; exact hb⟩

theorem spec_ToldApart (c d : Int) (w : World) : Calls Try.prog 15 #[.int .i64 c, .int .i64 d] w fun e w' => e = .returned (.int .i64 (TA c d)) ∧ Below w.heap.size w w' := by
  by_cases h1 : 0 ≤ c ∧ c ≤ 8
  · obtain ⟨h1, h2⟩ := h1
    by_cases h3 : 0 ≤ d ∧ d ≤ 14
    · obtain ⟨h3, h4⟩ := h3
      obtain ⟨c, rfl⟩ := Int.eq_ofNat_of_zero_le h1
      obtain ⟨d, rfl⟩ := Int.eq_ofNat_of_zero_le h3
      rw [TA_in _ _ (by omega) (by omega)]
      exact specTA_any _ _ (by omega) (by omega) _
    · go_enter Try.func15, Try.ntmps15
      go_wp2_with (first 
        | (go_at_call 38; refine (l1In_yes _ _ _ _ (by omega) (by omega)).mono ?_; rintro e w' ⟨rfl, rfl⟩) 
        | (go_at_call 38; refine (l1In_no _ _ _ _ (by omega)).mono ?_; rintro e w' ⟨rfl, rfl⟩))
      go_ret
      exact ⟨by rw [TA_out _ _ (by omega)]; rfl, Below.refl _ _⟩
  · go_enter Try.func15, Try.ntmps15
    go_wp2_with (first 
      | (go_at_call 38; refine (l1In_no _ _ _ _ (by omega)).mono ?_; rintro e w' ⟨rfl, rfl⟩))
    go_ret
    exact ⟨by rw [TA_out _ _ (by omega)]; rfl, Below.refl _ _⟩

theorem law_FnExactToldApart (a0 a1 : Int) (w : World) (_ : (Lit.int .i64 a0).wf = true) (_ : (Lit.int .i64 a1).wf = true) : Calls Try.prog 3 #[.int .i64 a0, .int .i64 a1] w fun e w' => e = .returned (.bool true) ∧ Below w.heap.size w w' := by
  go_enter Try.func3, Try.ntmps3
  go_wp2_with (first 
    | (go_at_call 15; refine (spec_ToldApart _ _ _).mono ?_; rintro e w1 ⟨rfl, hb1⟩) 
    | (go_at_call 16; refine (impl_ToldApart _ _ _).mono ?_; rintro e w2 ⟨rfl, hb2⟩))
  go_ret
  exact ⟨rfl, hb1.trans (hb2.mono hb1.size)⟩
end Go.Proofs.Ytpmbioeemkioaaa
