/- laws.sumOf; plain facts of the law FnLeastAverage. -/
import Derived.Test.YtanhdnbjepjhlaaProg
import Derived.Test.YtanhdnbjepjhlaaAvg1
import Derived.Test.YtanhdnbjepjhlaaHalves
import Derived.Test.YtanhdnbjepjhlaaTreeO
namespace Go.Proofs.Ytanhdnbjepjhlaa
open Go.RowKit

theorem take_snoc (xs : List Int) (k : Nat) (h : k < xs.length) : xs.take (k + 1) = xs.take k ++ [xs.getD k 0] := by
  rw [List.take_succ_eq_append_getElem h, List.getD_eq_getElem?_getD, List.getElem?_eq_getElem h]
  rfl
theorem sumL_take (xs : List Int) (k : Nat) (h : k < xs.length) : sumL (xs.take (k + 1)) = sumL (xs.take k) + xs.getD k 0 := by rw [take_snoc xs k h, sumL_append]

set_option maxHeartbeats 400000 in
theorem sumOf_any (v : Value) (xs : List Int) (w : World) (h : Rd w v xs) (hl : xs.length ≤ 1000) (hb : ∀ x ∈ xs, 0 ≤ x ∧ x ≤ 1000) :
    Calls Try.prog 9 #[v] w fun e w' => e = .returned (.int .i64 (sumL xs)) ∧ w = w' := by
  have HS : Hid (∀ k, 0 ≤ sumL (xs.take k) ∧ sumL (xs.take k) ≤ 1000 * ((xs.take k).length : Nat)) := fun k => sumL_bd (fun x hx => hb x (List.mem_of_mem_take hx))
  have HB : Hid (∀ k, k < xs.length → 0 ≤ xs.getD k 0 ∧ xs.getD k 0 ≤ 1000) := fun k hk => by
    have hm : xs.getD k 0 ∈ xs := by rw [List.getD_eq_getElem?_getD, List.getElem?_eq_getElem hk]; exact List.getElem_mem hk
    exact hb _ hm
  have HT : Hid (∀ k, k < xs.length → sumL (xs.take (k + 1)) = sumL (xs.take k) + xs.getD k 0) := fun k hk => sumL_take xs k hk
  have HE : Hid (sumL (xs.take xs.length) = sumL xs) := by show _ = _; rw [List.take_length]
  clear hb
  obtain ⟨a, ca, rfl, hm, ha⟩ := h
  have HA := Lib.hid ha
  clear ha hm
  go_enter Try.func9, Try.ntmps9
  go_wp2_with fail
  go_loop [3, 4] (fun n q => ∃ k : Nat, k ≤ xs.length ∧ q = .int .i64 k ∧ n = .int .i64 (sumL (xs.take k))) (fun _ q => xs.length - (intOf q).toNat)
  case atStart => exact ⟨0, by omega, rfl, rfl⟩
  case round =>
    obtain ⟨k, hk, rfl, rfl⟩ := hrel
    by_cases hlt : k < xs.length
    · have hne : xs ≠ [] := by intro e; rw [e] at hlt; simp at hlt
      obtain ⟨g, off, rfl, hc⟩ := HA.out hne
      have hck := hc k (by omega)
      have hs := HS.out k
      rw [List.length_take] at hs
      have hx := HB.out k (by omega)
      have HN := Lib.hid (HT.out k hlt)
      generalize xs.getD k 0 = x at *
      generalize sumL (xs.take k) = s at *
      have hi0 : (0 : Int) ≤ (k : Int) := by omega
      have hi1 : (k : Int) < (xs.length : Int) := by omega
      have hw1 : IntKind.i64.wrap (s + x) = s + x := IntWalk.i64_in _ (by omega)
      clear hc hne hs hx
      go_wp2_with fail
      go_round
      case rel => exact ⟨k + 1, by omega, by go_num, by rw [HN.out]⟩
      case measure => simp [intOf]; omega
    · have hke : k = xs.length := by omega
      have HK := Lib.hid hke
      clear hke
      go_wp2_with fail
      go_ret
      exact ⟨ret_int (by rw [HK.out, HE.out]), rfl⟩

theorem OOk_iff {xs : List Int} : OOk xs = true ↔ (1 ≤ xs.length ∧ xs.length ≤ 9) ∧ ∀ x ∈ xs, 0 ≤ x ∧ x ≤ 100 := by
  unfold OOk
  simp only [Bool.and_eq_true, decide_eq_true_eq, AllB_iff]
theorem OOk_reverse {xs : List Int} (h : OOk xs = true) : OOk xs.reverse = true := by
  rw [OOk_iff] at h ⊢
  refine ⟨by rw [List.length_reverse]; exact h.1, fun x hx => h.2 x (List.mem_reverse.1 hx)⟩
theorem LAv_reverse {xs : List Int} (h : OOk xs = true) : LAv xs.reverse = LAv xs := by
  rw [LAv_ok h, LAv_ok (OOk_reverse h), List.length_reverse]
  exact huff_congr _ (List.reverse_perm xs)
theorem LAv_zero {xs : List Int} (h : OOk xs = true) (hl : xs.length < 9) : LAv xs ≤ LAv (0 :: xs) ∧ LAv (0 :: xs) ≤ LAv xs + sumL xs := by
  have h1 := OOk_iff.1 h
  have h2 : OOk (0 :: xs) = true := OOk_iff.2 ⟨by rw [List.length_cons]; omega, fun x hx => by
    rcases List.mem_cons.1 hx with rfl | hx
    · omega
    · exact h1.2 x hx⟩
  rw [LAv_ok h, LAv_ok h2, List.length_cons]
  exact ⟨huff_zero_ge xs h1.1.1 (fun x hx => (h1.2 x hx).1), huff_zero_le xs h1.1.1 (fun x hx => (h1.2 x hx).1)⟩
/-- No tree costs less. -/
theorem LAv_least {xs : List Int} (h : OOk xs = true) {l : List UInt8} {t : T} (ht : TO xs.length l = some t) : LAv xs ≤ CF xs l := by
  rw [LAv_ok h, CF_some h ht]
  have hg := (TO_some.1 ht).2.2
  rw [Int.toNat_natCast] at hg
  have h1 := OOk_iff.1 h
  exact cost_ge hg (by omega) (fun x hx => (h1.2 x hx).1)
theorem LAv_nn {xs : List Int} (h : OOk xs = true) : 0 ≤ LAv xs := by
  have h4 := (Mrg.start h).nn
  rw [LAv_ok h]
  obtain ⟨ps, D, p1, _, _, p4⟩ := huff_is xs.length xs rfl (OOk_iff.1 h).1.1
  rw [← p4]
  have : ∀ ps : List (Int × Nat), (∀ p ∈ ps, 0 ≤ p.1) → 0 ≤ cost ps := by
    intro ps
    induction ps with
    | nil => intro _; simp [cost]
    | cons p r ih =>
      intro hp
      have a1 := ih (fun q hq => hp q (List.mem_cons_of_mem _ hq))
      have a2 := Int.mul_nonneg (hp p List.mem_cons_self) (show (0 : Int) ≤ (p.2 : Int) by omega)
      rw [cost]
      omega
  exact this ps (fun p hp => h4 _ (p1.mem_iff.1 (List.mem_map_of_mem hp)))
end Go.Proofs.Ytanhdnbjepjhlaa
