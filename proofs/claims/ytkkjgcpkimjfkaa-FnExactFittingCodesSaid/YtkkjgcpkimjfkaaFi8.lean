/- The law FnExactFittingCodes. -/
import Derived.Test.YtkkjgcpkimjfkaaProg
import Derived.Test.YtkkjgcpkimjfkaaFi6
import Derived.Test.YtkkjgcpkimjfkaaFi7
namespace Go.Proofs.Ytkkjgcpkimjfkaa
open Go.RowKit

theorem FC_facts (p c : Int) (gs : List Gs) : ∃ p0 : Nat, p0 ≤ 3 ∧ (FC p c gs).length ≤ 125 ∧ ∀ j, j < (FC p c gs).length → ((FC p c gs).getD j []).length = p0 := by
  obtain ⟨p0, h0, h1, h2⟩ := AC_facts p c
  cases hok : GOk p c gs with
  | false => rw [FC_no hok]; exact ⟨p0, h0, by simp, fun j hj => by simp at hj⟩
  | true =>
    rw [FC_yes hok]
    refine ⟨p0, h0, Nat.le_trans (List.length_filter_le _ _) h1, fun j hj => ?_⟩
    have hm : ((AC p c).filter (Fit p c gs)).getD j [] ∈ AC p c := by
      rw [List.getD_eq_getElem?_getD, List.getElem?_eq_getElem hj]
      exact (List.mem_filter.1 (List.getElem_mem hj)).1
    obtain ⟨i, hi, e⟩ := List.mem_iff_getElem.1 hm
    have := h2 i hi
    rw [List.getD_eq_getElem?_getD, List.getElem?_eq_getElem hi] at this
    rw [← e]
    exact this

set_option maxHeartbeats 4000000 in
theorem law_FnExactFittingCodes (b0 b1 : Int) (a0 : Option Addr) (len0 cap0 : Nat) (gs : List Gs) (w : World) (_ : (Lit.int .i64 b0).wf = true) (_ : (Lit.int .i64 b1).wf = true) (w0 : RdG w (.slice a0 len0 cap0) gs) :
    Calls Try.prog 7 #[.int .i64 b0, .int .i64 b1, .slice a0 len0 cap0] w fun e w' => e = .returned (.bool true) ∧ Below w.heap.size w w' := by
  have H0 := Lib.hid w0
  have KS := Lib.hid (szGuessS_any _ gs w w0)
  have ks := Lib.hid (fun v w h => spec_FittingCodes b0 b1 v gs w h)
  have ki := Lib.hid (fun v w h => impl_FittingCodes b0 b1 v gs w h)
  unfold FcPost at ki
  obtain ⟨p0, hp0, hlen, huni⟩ := FC_facts b0 b1 gs
  generalize FC b0 b1 gs = rows at *
  have HU := Lib.hid huni
  generalize hn : rows.length = n at *
  have HN := Lib.hid hn
  have hnp : n * p0 ≤ 125 * 3 := Nat.mul_le_mul hlen hp0
  obtain ⟨q, hq⟩ : ∃ q, q = n * p0 := ⟨_, rfl⟩
  rw [← hq] at hnp
  have HQ := Lib.hid hq
  clear huni hn hq w0
  go_enter Try.func7, Try.ntmps7
  go_wp2_with fail
  refine KS.out.mono ?_
  rintro e w1 ⟨⟨r, rfl, hr⟩, hb1⟩
  have B1 := Lib.hid hb1
  clear hb1 KS
  rcases hr with hr | ⟨hr0, hgl, hcs⟩
  · go_wp2_with fail
    go_ret
    exact ⟨rfl, B1.out⟩
  · have HL := Lib.hid hgl
    have HC := Lib.hid hcs
    have hr1 : ¬ r < 0 := by omega
    clear hgl hcs
    go_wp2_with fail
    refine (toGuessS_any _ gs _ (H0.out.below B1.out) HL.out HC.out).mono ?_
    rintro e w2 ⟨⟨u2, rfl, o2⟩, hb2⟩
    have B2 := Lib.hid (B1.out.trans (hb2.mono B1.out.size))
    have O2 := Lib.hid o2
    clear o2 hb2
    go_wp2_with fail
    refine (ks.out u2 _ O2.out.rd).mono ?_
    rintro e w3 ⟨⟨v1, rfl, r1⟩, hb3⟩
    have B3 := Lib.hid (B2.out.trans (hb3.mono B2.out.size))
    have R1 := Lib.hid r1
    clear hb3 O2 r1
    go_wp2_with fail
    refine (toGuessS_any _ gs _ (H0.out.below B3.out) HL.out HC.out).mono ?_
    rintro e w4 ⟨⟨u4, rfl, o4⟩, hb4⟩
    obtain ⟨B, us, rfl, hO⟩ := o4.high HC.out
    have O4 := Lib.hid hO
    have B4 := Lib.hid (B3.out.trans (hb4.mono B3.out.size))
    have C4 := Lib.hid hb4
    clear o4 hb4 hO
    go_wp2_with fail
    refine (ki.out _ _ O4.out.rd).mono ?_
    rintro e w5 ⟨⟨g0, ug, rfl, o5⟩, hb5⟩
    have G5 := Lib.hid o5
    have O5 := Lib.hid (O4.out.below (Nat.le_refl _) hb5)
    have B5 := Lib.hid (B4.out.trans (hb5.mono B4.out.size))
    have C5 := Lib.hid (C4.out.trans (hb5.mono C4.out.size))
    have S5 : Hid (w4.heap.size ≤ w5.heap.size) := hb5.size
    clear o5 hb5 O4 B4
    go_wp2_with fail
    refine (eqIntSS_yes _ _ rows _ G5.out.rd (R1.out.below C5.out)).mono ?_
    rintro e w6 ⟨rfl, hb6⟩
    have G6 := Lib.hid (G5.out.below hb6)
    have O6 := Lib.hid (O5.out.below S5.out hb6)
    have B6 := Lib.hid (B5.out.trans (hb6.mono B5.out.size))
    have C6 := Lib.hid (C5.out.trans (hb6.mono C5.out.size))
    have S6 : Hid (w4.heap.size ≤ w6.heap.size) := Nat.le_trans S5.out hb6.size
    clear hb6 G5 O5 B5 C5 S5
    go_wp2_with fail
    refine (toGuessS_any _ gs _ (H0.out.below B6.out) HL.out HC.out).mono ?_
    rintro e w7 ⟨⟨u7, rfl, o7⟩, hb7⟩
    have P7 := Lib.hid o7
    have G7 := Lib.hid (G6.out.below hb7)
    have O7 := Lib.hid (O6.out.below S6.out hb7)
    have B7 := Lib.hid (B6.out.trans (hb7.mono B6.out.size))
    have C7 := Lib.hid (C6.out.trans (hb7.mono C6.out.size))
    have S7 : Hid (w4.heap.size ≤ w7.heap.size) := Nat.le_trans S6.out hb7.size
    clear hb7 o7 G6 O6 B6 C6 S6
    go_wp2_with fail
    refine (eqGuessS_yes _ _ gs _ O7.out.rd P7.out.rd).mono ?_
    rintro e w8 ⟨rfl, hb8⟩
    have G8 := Lib.hid (G7.out.below hb8)
    have O8 := Lib.hid (O7.out.below S7.out hb8)
    have B8 := Lib.hid (B7.out.trans (hb8.mono B7.out.size))
    have C8 := Lib.hid (C7.out.trans (hb8.mono C7.out.size))
    have S8 : Hid (w4.heap.size ≤ w8.heap.size) := Nat.le_trans S7.out hb8.size
    clear hb8 P7 G7 O7 B7 C7 S7
    go_wp2_with fail
    refine (markGuessS_any _ _ B w4.heap.size us gs g0 ug rows w8 O8.out S8.out G8.out (Nat.le_refl _)).mono ?_
    rintro e w9 ⟨⟨r9, rfl, hr9⟩, o9, hb9⟩
    have G9 := Lib.hid o9
    have C9 := Lib.hid (C8.out.trans hb9)
    have B9 := Lib.hid (B8.out.trans (hb9.mono B3.out.size))
    have S9 : Hid (w4.heap.size ≤ w9.heap.size) := Nat.le_trans S8.out hb9.size
    have hr9' : ¬ r9 < 0 := by omega
    clear hb9 o9 G8 O8 B8 C8 S8
    go_wp2_with fail
    refine (eqIntSS_yes _ _ rows _ G9.out.rd (R1.out.below C9.out)).mono ?_
    rintro e w10 ⟨rfl, hb10⟩
    have G10 := Lib.hid (G9.out.below hb10)
    have B10 := Lib.hid (B9.out.trans (hb10.mono B9.out.size))
    have C10 := Lib.hid (C9.out.trans (hb10.mono C9.out.size))
    have S10 : Hid (w4.heap.size ≤ w10.heap.size) := Nat.le_trans S9.out hb10.size
    clear hb10 G9 B9 C9 S9
    go_wp2_with fail
    refine (markIntSS_any _ ug rows 1 p0 n _ _ G10.out HN.out HU.out (by omega) (by omega) (by omega) (by omega) S10.out).mono ?_
    rintro e w11 ⟨rfl, ⟨rows', o11, hM⟩, hb11⟩
    rw [← HQ.out]
    have G11 := Lib.hid o11
    have HM := Lib.hid hM
    have C11 := Lib.hid (C10.out.trans (hb11.mono C4.out.size))
    have B11 := Lib.hid (B10.out.trans (hb11.mono (Nat.le_trans B3.out.size C4.out.size)))
    clear hb11 o11 hM G10 B10 C10 S10
    go_wp2_with fail
    refine (heldIntSS_yes _ 1 p0 n rows' _ G11.out.rd HM.out (by omega) (by omega) (by omega) (by omega)).mono ?_
    rintro e w12 ⟨rfl, hb12⟩
    rw [← HQ.out]
    have G12 := Lib.hid (G11.out.below hb12)
    have B12 := Lib.hid (B11.out.trans (hb12.mono B11.out.size))
    have C12 := Lib.hid (C11.out.trans (hb12.mono C11.out.size))
    clear hb12 G11 B11 C11
    go_wp2_with fail
    refine (toGuessS_any _ gs _ (H0.out.below B12.out) HL.out HC.out).mono ?_
    rintro e w13 ⟨⟨u13, rfl, o13⟩, hb13⟩
    have P13 := Lib.hid o13
    have G13 := Lib.hid (G12.out.below hb13)
    have B13 := Lib.hid (B12.out.trans (hb13.mono B12.out.size))
    have C13 := Lib.hid (C12.out.trans (hb13.mono C12.out.size))
    clear hb13 o13 G12 B12 C12
    go_wp2_with fail
    refine (ki.out _ _ P13.out.rd).mono ?_
    rintro e w14 ⟨⟨h0, uh, rfl, o14⟩, hb14⟩
    have Q14 := Lib.hid o14
    have G14 := Lib.hid (G13.out.below hb14)
    have B14 := Lib.hid (B13.out.trans (hb14.mono B13.out.size))
    have C14 := Lib.hid (C13.out.trans (hb14.mono C13.out.size))
    clear hb14 o14 G13 B13 C13 P13
    go_wp2_with fail
    refine (eqIntSS_yes _ _ rows _ Q14.out.rd (R1.out.below C14.out)).mono ?_
    rintro e w15 ⟨rfl, hb15⟩
    have G15 := Lib.hid (G14.out.below hb15)
    have B15 := Lib.hid (B14.out.trans (hb15.mono B14.out.size))
    clear hb15 G14 B14 C14 Q14
    go_wp2_with fail
    refine (heldIntSS_yes _ 1 p0 n rows' _ G15.out.rd HM.out (by omega) (by omega) (by omega) (by omega)).mono ?_
    rintro e w16 ⟨rfl, hb16⟩
    rw [← HQ.out]
    have B16 := Lib.hid (B15.out.trans (hb16.mono B15.out.size))
    clear hb16
    go_wp2_with fail
    go_ret
    exact ⟨rfl, B16.out⟩
end Go.Proofs.Ytkkjgcpkimjfkaa
