/- The law FnSureWith. -/
import Derived.Test.YtpdijlpdkdhgpaaProg
import Derived.Test.YtpdijlpdkdhgpaaPrices12
namespace Go.Proofs.Ytpdijlpdkdhgpaa
open Go.RowKit

set_option maxHeartbeats 1000000 in
theorem draw_SureWith (a : Option Addr) (len cap : Nat) (w : World) (h : Code8 w a len cap) :
    Calls Try.prog 23 #[.slice a len cap] w fun e w' => ∃ (v : Value) (L : List Int), e = .returned v ∧ w'.ownsRow w.heap.size 3 1 v L.length (L.map (Value.int .i64)) ∧ L.length ≤ 10 ∧ Below w.heap.size w w' := by
  go_enter Try.func23, Try.ntmps23
  go_wp2_with fail
  refine (open_any a len cap w h).mono ?_
  rintro e w1 ⟨rfl, hr, hb⟩
  go_wp2_with fail
  refine (prices_any w.heap.size 0 9 (by omega) (by omega) (by omega) w1 hr.toU).mono ?_
  rintro e w2 ⟨v, L, rfl, hown, hL, hg⟩
  go_wp2_with fail
  go_ret
  exact ⟨_, L, rfl, hown.mono hb.size, hL, hb.trans (below_of_grownBy hg hb.size (Nat.le_refl _))⟩

theorem take_snoc (xs : List Int) (k : Nat) (h : k < xs.length) : xs.take (k + 1) = xs.take k ++ [xs.getD k 0] := by
  rw [List.take_succ_eq_append_getElem h, List.getD_eq_getElem?_getD, List.getElem?_eq_getElem h]
  rfl
theorem rev_getD (L : List Int) (j : Nat) (h : j < L.length) : L.reverse.getD j 0 = L.getD (L.length - 1 - j) 0 := by
  rw [List.getD_eq_getElem?_getD, List.getD_eq_getElem?_getD, List.getElem?_reverse h]
theorem rev_snoc (L : List Int) (j : Nat) (h : j < L.length) : L.reverse.take (j + 1) = L.reverse.take j ++ [L.getD (L.length - 1 - j) 0] := by
  rw [take_snoc _ _ (by rw [List.length_reverse]; exact h), rev_getD L j h]

theorem POk_iff {xs : List Int} : POk xs = true ↔ xs.length ≤ 9 ∧ ∀ x ∈ xs, 0 ≤ x ∧ x ≤ 50 := by
  simp only [POk, Bool.and_eq_true, decide_eq_true_eq, AllB_iff]
theorem SW_rev {xs : List Int} (h : POk xs = true) : SW xs.reverse = SW xs := by
  have h2 : POk xs.reverse = true := by
    rw [POk_iff] at h ⊢
    exact ⟨by rw [List.length_reverse]; exact h.1, fun x hx => h.2 x (List.mem_reverse.1 hx)⟩
  rw [SW_ok h, SW_ok h2, List.length_reverse]
  have := Cx_rev (POk_all h) (POk_all h2) xs.length (fun j hj => rev_getD xs j hj) xs.length 0 xs.length (by omega) (Nat.le_refl _)
  rwa [Nat.sub_self, Nat.sub_zero] at this
theorem SW_tail {xs : List Int} (h : POk xs = true) (h0 : 0 < xs.length) : SW ((xs.drop 1).take (xs.length - 1)) ≤ SW xs := by
  have h2 := POk_tail h h0
  have hl : ((xs.drop 1).take (xs.length - 1)).length = xs.length - 1 := by simp
  rw [SW_ok h, SW_ok h2, hl]
  have h3 := Cx_map (POk_all h) (POk_all h2) 1 (xs.length - 1) (fun j hj => by rw [List.getD_eq_getElem?_getD, List.getD_eq_getElem?_getD, List.getElem?_take_of_lt hj, List.getElem?_drop, Nat.add_comm]) (xs.length - 1) 0 (xs.length - 1) (by omega) (Nat.le_refl _)
  rw [h3, show xs.length - 1 + 1 = xs.length by omega, Nat.zero_add]
  exact Cx_tail (POk_all h) xs.length 0 xs.length (by omega)
theorem SW_nine : SW [1, 2, 3, 4, 5, 6, 7, 8, 9] = 14 := by
  rw [SW_ok (by decide)]
  decide +kernel

set_option maxHeartbeats 1000000 in
theorem turnedRow_any (v : Value) (L : List Int) (w : World) (h : Rd w v L) (hl : L.length ≤ 1000) :
    Calls Try.prog 24 #[v] w fun e w' => ∃ u, e = .returned u ∧ Rd w' u L.reverse ∧ Below w.heap.size w w' := by
  obtain ⟨a, ca, rfl, _, hcl⟩ := h
  have HCL := Lib.hid hcl
  have HO := Lib.hid (World.ownsRow_made w (e := 3) (base := w.heap.size) (size := 1) #[] 0 (Nat.le_refl _) (by simp [maxLen]) (by simp))
  have HA := Lib.hid (show Below w.heap.size w (w.alloc (.cells #[] 3)) from (Below.refl _ _).alloc (Nat.le_refl _) _)
  clear hcl
  go_enter Try.func24, Try.ntmps24
  go_wp2_with fail
  go_loopw [3, 4] (fun vo vi wr => ∃ j : Nat, j ≤ L.length ∧ vi = .int .i64 ((L.length : Int) - 1 - j) ∧ wr.ownsRow w.heap.size 3 1 vo (L.reverse.take j).length ((L.reverse.take j).map (Value.int .i64)) ∧ Below w.heap.size w wr) (fun _ vi _ => (intOf vi + 1).toNat)
  case atStart => exact ⟨0, by omega, by simp, HO.out, HA.out⟩
  case round =>
    clear HO HA
    obtain ⟨j, hj, rfl, hown, hbr⟩ := hrel
    by_cases hlt : j < L.length
    · obtain ⟨g, off, rfl, hc⟩ := HCL.out (by intro e; rw [e] at hlt; simp at hlt)
      obtain ⟨q, hq⟩ : ∃ q : Nat, (L.length : Int) - 1 - j = q := ⟨L.length - 1 - j, by omega⟩
      have hcq := (hbr.cell (p := ⟨g, off + q, none⟩) (World.block_lt_of_cell? w _ (hc q (by omega)))).trans (hc q (by omega))
      have hrv := rev_snoc L j hlt
      rw [show L.length - 1 - j = q by omega] at hrv
      have HR := Lib.hid hrv
      have hlm : (L.reverse.take j).length < 1000000000 := by rw [List.length_take, List.length_reverse]; omega
      rw [hq]
      generalize L.getD q 0 = x at *
      have hi0 : (0 : Int) ≤ (q : Int) := by omega
      have hi1 : (q : Int) < (L.length : Int) := by omega
      obtain ⟨M, hM⟩ : ∃ M, M = L.reverse.take j := ⟨_, rfl⟩
      rw [← hM] at hown hlm HR
      have hszr := hbr.size
      clear hrv hM hc
      go_wp2_with (first | (at_builtin; (refine wpList_append_int _ rfl _ _ rfl w.heap.size _ M x hown rfl rfl hlm hszr ?_); intro v5 w5 hown5 hb5))
      go_roundw
      case rel =>
        refine ⟨j + 1, by omega, ?_, by rw [HR.out]; exact hown5, hbr.trans hb5⟩
        congr 1
        omega
      case measure => simp [intOf]
    · have hjl : j = L.length := by omega
      subst hjl
      rw [show (L.length : Int) - 1 - (L.length : Int) = -1 by omega]
      rw [show L.reverse.take L.length = L.reverse by rw [show L.length = L.reverse.length by rw [List.length_reverse], List.take_length]] at hown
      have HO := Lib.hid (Ow.of_row hown (by rw [List.length_reverse]; simp only [maxLen]; omega)).rd
      have HBR := Lib.hid hbr
      clear hown hbr hj hlt
      go_wp2_with fail
      go_ret
      exact ⟨_, rfl, HO.out, HBR.out⟩
end Go.Proofs.Ytpdijlpdkdhgpaa
