/- CostOf, both; the law FnExactCostOf. -/
import Derived.Test.YtanhdnbjepjhlaaProg
import Derived.Test.YtanhdnbjepjhlaaTreeN
namespace Go.Proofs.Ytanhdnbjepjhlaa
open Go.RowKit

def CF (xs : List Int) (l : List UInt8) : Int :=
  if OOk xs = true then (match TO xs.length l with | some t => CO xs xs.length t xs.length | none => -1) else -1
theorem CF_bad {xs : List Int} {l : List UInt8} (h : OOk xs = false) : CF xs l = -1 := by unfold CF; rw [h]; rfl
theorem CF_none {xs : List Int} {l : List UInt8} (h : TO xs.length l = none) : CF xs l = -1 := by
  unfold CF
  rw [h]
  split <;> rfl
theorem CF_some {xs : List Int} {l : List UInt8} {t : T} (h1 : OOk xs = true) (h : TO xs.length l = some t) : CF xs l = CO xs xs.length t xs.length := by
  unfold CF
  rw [if_pos h1, h]
theorem OOk_bd {xs : List Int} (h : OOk xs = true) : (1 ≤ xs.length ∧ xs.length ≤ 9) ∧ ∀ j, j < xs.length → 0 ≤ xs.getD j 0 ∧ xs.getD j 0 ≤ 100 := by
  unfold OOk at h
  simp only [Bool.and_eq_true, decide_eq_true_eq] at h
  refine ⟨h.1, fun j hj => AllB_iff.1 h.2 _ ?_⟩
  rw [List.getD_eq_getElem?_getD, List.getElem?_eq_getElem hj]
  exact List.getElem_mem hj
theorem CO_bd {xs : List Int} {n : Nat} {t : T} (h : ∀ j, j < xs.length → 0 ≤ xs.getD j 0 ∧ xs.getD j 0 ≤ 100) (hd : ∀ j, dep t j ≤ 14) : ∀ k, k ≤ xs.length → 0 ≤ CO xs n t k ∧ CO xs n t k ≤ 1400 * k
  | 0, _ => by simp [CO]
  | k + 1, hk => by
    have h1 := CO_bd (n := n) h hd k (by omega)
    have h2 := h k (by omega)
    have h3 := hd k
    rw [CO]
    have e1 := Int.mul_nonneg h2.1 (Int.natCast_nonneg (dep t k))
    have e2 : xs.getD k 0 * (dep t k : Int) ≤ 100 * 14 := Int.mul_le_mul h2.2 (by omega) (by omega) (by omega)
    omega

set_option maxHeartbeats 2000000 in
theorem spec_CostOf (v : Value) (xs : List Int) (s : ByteArray) (hs : s.size ≤ 1048576) (w : World) (h : Rd w v xs) :
    Calls Try.prog 6 #[v, .string s] w fun e w' => e = .returned (.int .i64 (CF xs s.data.toList)) ∧ Below w.heap.size w w' := by
  have k0 := Lib.hid (spec_OftenOk v xs w h)
  cases hok : OOk xs with
  | false =>
    rw [CF_bad hok]
    rw [hok] at k0
    clear h hok
    go_enter Try.func6, Try.ntmps6
    go_wp2_with fail
    refine k0.out.mono ?_
    rintro e w1 ⟨rfl, rfl⟩
    go_wp2_with fail
    go_ret
    exact ⟨rfl, Below.refl _ _⟩
  | true =>
    rw [hok] at k0
    have k1 := Lib.hid (fun w => spec_TreeOk xs.length s hs w)
    have k2 := Lib.hid (fun w => spec_DepthsOf xs.length s hs w)
    have HR := Lib.hid h
    obtain ⟨⟨hl1, hl2⟩, hbd⟩ := OOk_bd hok
    obtain ⟨a, ca, rfl, hm, _⟩ := h
    unfold maxLen at hm
    cases hto : TO xs.length s.data.toList with
    | none =>
      rw [CF_none hto]
      have hb : TB xs.length s.data.toList = false := by unfold TB; rw [hto]; rfl
      rw [hb] at k1
      clear hok hto hb hbd k2 HR
      go_enter Try.func6, Try.ntmps6
      go_wp2_with fail
      refine k0.out.mono ?_
      rintro e w1 ⟨rfl, rfl⟩
      go_wp2_with fail
      refine (k1.out _).mono ?_
      rintro e w1 ⟨rfl, hb1⟩
      have HB1 := Lib.hid hb1
      clear hb1
      go_wp2_with fail
      go_ret
      exact ⟨rfl, HB1.out⟩
    | some t =>
      rw [CF_some hok hto]
      have hgood := (TO_some.1 hto).2.2
      rw [Int.toNat_natCast] at hgood
      have hb : TB xs.length s.data.toList = true := by unfold TB; rw [hto]; rfl
      rw [hb] at k1
      have hdo := DO_some hto
      rw [Int.toNat_natCast] at hdo
      rw [hdo] at k2
      have HCB := Lib.hid (CO_bd (n := xs.length) (t := t) hbd (fun j => by have := dep_lt hgood j; omega))
      have HBD := Lib.hid hbd
      have HDL := Lib.hid (fun j => (show dep t j ≤ 14 by have := dep_lt hgood j; omega))
      have HLL := Lib.hid (DL_length xs.length t)
      have HLG := Lib.hid (DL_getD xs.length t)
      generalize DL xs.length t = L at *
      clear hok hto hb hbd hgood hdo
      go_enter Try.func6, Try.ntmps6
      go_wp2_with fail
      refine k0.out.mono ?_
      rintro e w1 ⟨rfl, rfl⟩
      go_wp2_with fail
      refine (k1.out _).mono ?_
      rintro e w1 ⟨rfl, hb1⟩
      go_wp2_with fail
      refine (k2.out _).mono ?_
      rintro e w2 ⟨v2, rfl, ho2, hb2⟩
      have hb3 := hb1.trans (hb2.mono hb1.size)
      have HB3 := Lib.hid hb3
      obtain ⟨a3, ca3, e3, _, hc3⟩ := HR.out.below hb3
      obtain ⟨va, vc, rfl, _, hc⟩ := ho2
      rw [HLL.out] at hc ⊢
      have HC := Lib.hid hc
      have HC3 := Lib.hid hc3
      have HE3 := Lib.hid e3
      clear hb1 hb2 hb3 hc hc3 e3 HR
      go_wp2_with fail
      go_loopw [6, 7] (fun vs q wr => ∃ k : Nat, k ≤ xs.length ∧ q = .int .i64 k ∧ vs = .int .i64 (CO xs xs.length t k) ∧ Below w2.heap.size w2 wr) (fun _ q _ => xs.length - (intOf q).toNat)
      case atStart => exact ⟨0, by omega, rfl, rfl, Below.refl _ _⟩
      case round =>
        obtain ⟨k, hk, rfl, rfl, hbr⟩ := hrel
        by_cases hlt : k < xs.length
        · have hne : xs ≠ [] := by intro e; rw [e] at hlt; simp at hlt
          have hneL : L ≠ [] := by intro e; have := HLL.out; rw [e] at this; simp at this; omega
          obtain ⟨g, off, e4, hx⟩ := HC3.out hne
          obtain ⟨g', off', rfl, _, hy⟩ := HC.out hneL
          obtain rfl : a = some ⟨g, off, none⟩ := by have := HE3.out; rw [e4] at this; simp at this; exact this.1
          have hx1 := hx k hlt
          have hy1 := (hy k hlt).1
          rw [HLG.out k hlt] at hy1
          have hxk := (hbr.cell (p := ⟨g, off + k, none⟩) (World.block_lt_of_cell? w2 _ hx1)).trans hx1
          have hyk := (hbr.cell (p := ⟨g', off' + k, none⟩) (World.block_lt_of_cell? w2 _ hy1)).trans hy1
          have hb1 := HBD.out k hlt
          have hb2 := HDL.out k
          have hb3 := HCB.out k hk
          have HN : Hid (CO xs xs.length t (k + 1) = CO xs xs.length t k + xs.getD k 0 * dep t k) := rfl
          generalize xs.getD k 0 = x at *
          generalize dep t k = d at *
          generalize CO xs xs.length t k = y at *
          have e1 := Int.mul_nonneg hb1.1 (Int.natCast_nonneg d)
          have e2 : x * (d : Int) ≤ 100 * 14 := Int.mul_le_mul hb1.2 (by omega) (by omega) (by omega)
          obtain ⟨z, hz⟩ : ∃ z, x * (d : Int) = z := ⟨_, rfl⟩
          rw [hz] at e1 e2
          have hw1 : IntKind.i64.wrap (x * (d : Int)) = z := by rw [hz]; exact IntWalk.i64_in _ (by omega)
          have hw2 : IntKind.i64.wrap (y + z) = y + z := IntWalk.i64_in _ (by omega)
          have HZ := Lib.hid hz
          have hi0 : (0 : Int) ≤ (k : Int) := by omega
          have hi1 : (k : Int) < (xs.length : Int) := by omega
          clear hx hy hx1 hy1 hne hneL e4 hz
          go_wp2_with fail
          go_quiet (fail)
          clear hw1 hw2
          go_wp2_with fail
          go_roundw
          case rel => exact ⟨k + 1, by omega, by go_num, by rw [HN.out, HZ.out], below_drewN hbr _⟩
          case measure => simp [intOf]; omega
        · have hke : k = xs.length := by omega
          have HK := Lib.hid hke
          clear hke
          go_wp2_with fail
          go_ret
          exact ⟨ret_int (by rw [HK.out]), HB3.out.trans (hbr.mono HB3.out.size)⟩

set_option maxHeartbeats 2000000 in
theorem impl_CostOf (v : Value) (xs : List Int) (s : ByteArray) (hs : s.size ≤ 1048576) (w : World) (h : Rd w v xs) :
    Calls Try.prog 5 #[v, .string s] w fun e w' => e = .returned (.int .i64 (CF xs s.data.toList)) ∧ Below w.heap.size w w' := by
  have k1 := Lib.hid (impl_DepthsOf xs.length s hs w)
  have k0 := Lib.hid (fun w' (b : Below w.heap.size w w') => impl_OftenOk v xs w' (h.below b))
  have HR := Lib.hid h
  obtain ⟨a, ca, rfl, hm, _⟩ := h
  unfold maxLen at hm
  obtain ⟨CV, hCV⟩ : ∃ CV, CF xs s.data.toList = CV := ⟨_, rfl⟩
  rw [hCV]
  have HCV := Lib.hid hCV
  clear hCV
  cases hok : OOk xs with
  | false =>
    have HE := Lib.hid (HCV.out.symm.trans (CF_bad hok))
    rw [hok] at k0
    clear hok
    go_enter Try.func5, Try.ntmps5
    go_wp2_with fail
    refine k1.out.mono ?_
    rintro e w1 ⟨hbel, ⟨h1, rfl⟩ | ⟨t, g, h1, rfl, hg, hrow⟩⟩
    · go_wp2_with fail
      refine (k0.out _ hbel).mono ?_
      rintro e w2 ⟨rfl, hb2⟩
      have HB := Lib.hid (hbel.trans (hb2.mono hbel.size))
      clear hbel hb2 h1
      go_wp2_with fail
      go_ret
      exact ⟨ret_int HE.out.symm, HB.out⟩
    · rw [Int.toNat_natCast]
      go_wp2_with fail
      refine (k0.out _ hbel).mono ?_
      rintro e w2 ⟨rfl, hb2⟩
      have HB := Lib.hid (hbel.trans (hb2.mono hbel.size))
      clear hbel hb2 h1 hrow
      go_wp2_with fail
      go_ret
      exact ⟨ret_int HE.out.symm, HB.out⟩
  | true =>
    rw [hok] at k0
    obtain ⟨⟨hl1, hl2⟩, hbd⟩ := OOk_bd hok
    have HOK := Lib.hid hok
    have HBD := Lib.hid hbd
    clear hok hbd
    go_enter Try.func5, Try.ntmps5
    go_wp2_with fail
    refine k1.out.mono ?_
    rintro e w1 ⟨hbel, ⟨h1, rfl⟩ | ⟨t, g, h1, rfl, hg, hrow⟩⟩
    · have HE := Lib.hid (HCV.out.symm.trans (CF_none h1))
      have hq := fun (w : World) => Lib.run_eql_slice_nil (P := Try.prog) w 23 3 none 0 0 0 0 Try.underlying23
      go_wp2_with fail
      refine (k0.out _ hbel).mono ?_
      rintro e w2 ⟨rfl, hb2⟩
      have HB := Lib.hid (hbel.trans (hb2.mono hbel.size))
      clear hbel hb2 h1
      go_wp2_with fail
      go_ret
      exact ⟨ret_int HE.out.symm, HB.out⟩
    · rw [Int.toNat_natCast] at hrow ⊢
      have hgood := (TO_some.1 h1).2.2
      rw [Int.toNat_natCast] at hgood
      have HE := Lib.hid (HCV.out.symm.trans (CF_some HOK.out h1))
      have hq := fun (w : World) (x y : Nat) => Lib.run_eql_slice_nil (P := Try.prog) w 23 3 (some ⟨g, 0, none⟩) x y 0 0 Try.underlying23
      have HCB := Lib.hid (CO_bd (n := xs.length) (t := t) HBD.out (fun j => by have := dep_lt hgood j; omega))
      have HDL := Lib.hid (fun j => (show dep t j ≤ 14 by have := dep_lt hgood j; omega))
      have HROW := Lib.hid hrow
      have hg1 : Hid (g < w1.heap.size) := World.block_lt_of_cell? w1 _ (hrow.cell 0 (by omega))
      clear h1 hgood hrow
      go_wp2_with fail
      refine (k0.out _ hbel).mono ?_
      rintro e w2 ⟨rfl, hb2⟩
      have hrow2 := HROW.out.below hb2 hg1.out
      have hb3 := hbel.trans (hb2.mono hbel.size)
      have HB := Lib.hid hb3
      obtain ⟨a3, ca3, e3, _, hc3⟩ := HR.out.below hb3
      have HC3 := Lib.hid hc3
      have HE3 := Lib.hid e3
      clear hbel hb2 hb3 hc3 e3
      go_wp2_with fail
      go_loop [6, 22] (fun vs q => ∃ k : Nat, k ≤ xs.length ∧ q = .int .i64 k ∧ vs = .int .i64 (CO xs xs.length t k)) (fun _ q => xs.length - (intOf q).toNat)
      case atStart => exact ⟨0, by omega, rfl, rfl⟩
      case round =>
        obtain ⟨k, hk, rfl, rfl⟩ := hrel
        by_cases hlt : k < xs.length
        · have hne : xs ≠ [] := by intro e; rw [e] at hlt; simp at hlt
          obtain ⟨g', off, e4, hx⟩ := HC3.out hne
          obtain rfl : a = some ⟨g', off, none⟩ := by have := HE3.out; rw [e4] at this; simp at this; exact this.1
          have hxk := hx k hlt
          have hyk := hrow2.cell k hlt
          have hb1 := HBD.out k hlt
          have hb2 := HDL.out k
          have hb3 := HCB.out k hk
          have HN : Hid (CO xs xs.length t (k + 1) = CO xs xs.length t k + xs.getD k 0 * dep t k) := rfl
          generalize xs.getD k 0 = x at *
          generalize dep t k = d at *
          generalize CO xs xs.length t k = y at *
          have e1 := Int.mul_nonneg hb1.1 (Int.natCast_nonneg d)
          have e2 : x * (d : Int) ≤ 100 * 14 := Int.mul_le_mul hb1.2 (by omega) (by omega) (by omega)
          obtain ⟨z, hz⟩ : ∃ z, x * (d : Int) = z := ⟨_, rfl⟩
          have HZ := Lib.hid hz
          rw [hz] at e1 e2
          have hw1 : wrap64 (x * (d : Int)) = z := by rw [hz]; exact IntWalk.wrap64_in _ ⟨by omega, by omega⟩
          have hi0 : (0 : Int) ≤ (k : Int) := by omega
          have hi1 : (k : Int) < (xs.length : Int) := by omega
          clear hx hne e4 hz
          go_wp2_with fail
          go_round
          case rel => exact ⟨k + 1, by omega, by go_num, by rw [HN.out, HZ.out]⟩
          case measure => simp [intOf]; omega
        · have hke : k = xs.length := by omega
          have HK := Lib.hid hke
          clear hke
          go_wp2_with fail
          go_ret
          exact ⟨ret_int (by rw [HK.out]; exact HE.out.symm), HB.out⟩

end Go.Proofs.Ytanhdnbjepjhlaa
