/- WorstOf and CostOf, both; the laws FnExactWorstOf and FnExactCostOf. -/
import Derived.Test.YtanhdnbjepjhlaaProg
import Derived.Test.YtanhdnbjepjhlaaTreeK
import Derived.Test.YtanhdnbjepjhlaaOften
namespace Go.Proofs.Ytanhdnbjepjhlaa
open Go.RowKit

/-- the greatest of the first k numbers, -1 if there is none -/
def WL (L : List Int) : Nat → Int
  | 0 => -1
  | k + 1 => max (WL L k) (L.getD k 0)
theorem WL_DL (n : Nat) (t : T) : ∀ k, k ≤ n → WL (DL n t) k = WO t k
  | 0, _ => rfl
  | k + 1, h => by rw [WL, WO, WL_DL n t k (by omega), DL_getD n t k (by omega)]
def WF (n : Int) (l : List UInt8) : Int := match TO n l with | some t => WO t n.toNat | none => -1
theorem WF_none {n : Int} {l : List UInt8} (h : TO n l = none) : WF n l = -1 := by unfold WF; rw [h]
theorem WF_some {n : Int} {l : List UInt8} {t : T} (h : TO n l = some t) : WF n l = WO t n.toNat := by unfold WF; rw [h]
theorem WF_DO (n : Int) (l : List UInt8) : WL (DO n l) (DO n l).length = WF n l := by
  cases h : TO n l with
  | none => rw [DO_none h, WF_none h]; rfl
  | some t => rw [DO_some h, WF_some h, DL_length, WL_DL _ _ _ (Nat.le_refl _)]
theorem DO_bd (n : Int) (l : List UInt8) : (DO n l).length ≤ 14 ∧ ∀ j, j < (DO n l).length → 0 ≤ (DO n l).getD j 0 ∧ (DO n l).getD j 0 ≤ 14 := by
  cases h : TO n l with
  | none => rw [DO_none h]; simp
  | some t =>
    have h1 := TO_some.1 h
    have h2 := h1.1
    rw [DO_some h, DL_length]
    refine ⟨by omega, fun j hj => ?_⟩
    rw [DL_getD _ _ _ hj]
    have := dep_lt h1.2.2 j
    omega
theorem WL_bd {L : List Int} (h : ∀ j, j < L.length → 0 ≤ L.getD j 0 ∧ L.getD j 0 ≤ 14) : ∀ k, k ≤ L.length → -1 ≤ WL L k ∧ WL L k ≤ 14
  | 0, _ => by simp [WL]
  | k + 1, hk => by
    have h1 := WL_bd h k (by omega)
    have h2 := h k (by omega)
    rw [WL]
    omega


set_option maxHeartbeats 1000000 in
theorem max_any (g n : Nat) (L : List Int) (w : World) (hn : 1 ≤ n) (hL : L.length = n) (hn2 : n ≤ 14) (hrow : RowAt w g n (fun j => L.getD j 0)) (hbd : ∀ j, j < L.length → 0 ≤ L.getD j 0 ∧ L.getD j 0 ≤ 14) :
    Calls Try.prog 24 #[.slice (some ⟨g, 0, none⟩) n n] w fun e w' => e = .returned (.int .i64 (WL L n)) ∧ w = w' := by
  have hc0 := hrow.cell 0 (by omega)
  have h0 : Hid (L.getD 0 0 = WL L 1) := by
    show _ = _
    have := hbd 0 (by omega)
    rw [WL, WL]
    omega
  generalize L.getD 0 0 = x0 at hc0 h0
  have HBD := Lib.hid hbd
  have HL := Lib.hid hL
  clear hbd hL
  go_enter Try.func24, Try.ntmps24
  go_wp2_with fail
  go_loop [3, 4] (fun vm v => ∃ k : Nat, 1 ≤ k ∧ k ≤ n ∧ v = .int .i64 k ∧ vm = .int .i64 (WL L k)) (fun _ v => n - (intOf v).toNat)
  case atStart => exact ⟨1, by omega, by omega, rfl, by rw [h0.out]⟩
  case round =>
    obtain ⟨k, hk1, hk, rfl, rfl⟩ := hrel
    by_cases hlt : k < n
    · have hck := hrow.cell k hlt
      have hi0 : (0 : Int) ≤ (k : Int) := by omega
      have hi1 : (k : Int) < (n : Int) := by omega
      have HN : Hid (WL L (k + 1) = max (WL L k) (L.getD k 0)) := rfl
      generalize L.getD k 0 = x at *
      generalize WL L k = y at *
      by_cases hxy : y < x
      · have HM : Hid (WL L (k + 1) = x) := by show _ = _; rw [HN.out]; omega
        clear HN
        go_wp2_with fail
        go_round
        case rel => exact ⟨k + 1, by omega, by omega, by go_num, by rw [HM.out]⟩
        case measure => simp [intOf]; omega
      · have hxy' : x ≤ y := by omega
        have HM : Hid (WL L (k + 1) = y) := by show _ = _; rw [HN.out]; omega
        clear HN hxy
        go_wp2_with fail
        go_round
        case rel => exact ⟨k + 1, by omega, by omega, by go_num, by rw [HM.out]⟩
        case measure => simp [intOf]; omega
    · have hke : k = n := by omega
      have HK := Lib.hid hke
      clear hke
      go_wp2_with fail
      go_ret
      exact ⟨ret_int (by rw [HK.out]), rfl⟩

set_option maxHeartbeats 1000000 in
theorem impl_WorstOf (n : Int) (s : ByteArray) (hs : s.size ≤ 1048576) (w : World) :
    Calls Try.prog 10 #[.int .i64 n, .string s] w fun e w' => e = .returned (.int .i64 (WF n s.data.toList)) ∧ Below w.heap.size w w' := by
  have k1 := Lib.hid (impl_DepthsOf n s hs w)
  obtain ⟨WV, hWV⟩ : ∃ WV, WF n s.data.toList = WV := ⟨_, rfl⟩
  rw [hWV]
  have HWV := Lib.hid hWV
  clear hWV
  go_enter Try.func10, Try.ntmps10
  go_wp2_with fail
  refine k1.out.mono ?_
  rintro e w1 ⟨hbel, ⟨h1, rfl⟩ | ⟨t, g, h1, rfl, hg, hrow⟩⟩
  · have HE := Lib.hid (HWV.out.symm.trans (WF_none h1))
    have HBEL := Lib.hid hbel
    have hq := fun (w : World) => Lib.run_eql_slice_nil (P := Try.prog) w 23 3 none 0 0 0 0 Try.underlying23
    clear h1 hbel
    go_wp2_with fail
    go_ret
    exact ⟨ret_int HE.out.symm, HBEL.out⟩
  · have HE := Lib.hid (HWV.out.symm.trans (WF_some h1))
    have h2 := (TO_some.1 h1).1
    have h3 := (TO_some.1 h1).2.2
    obtain ⟨n, rfl⟩ := Int.eq_ofNat_of_zero_le (show 0 ≤ n by omega)
    rw [Int.toNat_natCast] at hrow HE h3 ⊢
    have hq := fun (w : World) (a b : Nat) => Lib.run_eql_slice_nil (P := Try.prog) w 23 3 (some ⟨g, 0, none⟩) a b 0 0 Try.underlying23
    have HBEL := Lib.hid hbel
    have km := Lib.hid (max_any g n (DL n t) w1 (by omega) (DL_length n t) (by omega) (hrow.congr (fun j hj => (DL_getD _ t j hj).symm)) (fun j hj => by
      rw [DL_length] at hj
      rw [DL_getD _ _ _ hj]
      have := dep_lt h3 j
      omega))
    rw [WL_DL n t n (Nat.le_refl _)] at km
    clear h1 h2 h3 hbel hrow
    go_wp2_with fail
    refine km.out.mono ?_
    rintro e w2 ⟨rfl, rfl⟩
    go_wp2_with fail
    go_ret
    exact ⟨ret_int HE.out.symm, HBEL.out⟩

end Go.Proofs.Ytanhdnbjepjhlaa
