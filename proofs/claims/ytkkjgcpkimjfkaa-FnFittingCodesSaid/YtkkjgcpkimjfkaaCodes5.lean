/- AnswerTo; the law FnExactAnswerTo. -/
import Derived.Test.YtkkjgcpkimjfkaaProg
import Derived.Test.YtkkjgcpkimjfkaaCodes4
import Derived.BigQuiet
namespace Go.Proofs.Ytkkjgcpkimjfkaa
open Go.RowKit

set_option maxHeartbeats 1000000 in
theorem impl_AnswerTo (p c : Int) (va vb : Value) (xs ys : List Int) (w : World) (ha : Rd w va xs) (hb : Rd w vb ys) :
    Calls Try.prog 18 #[.int .i64 p, .int .i64 c, va, vb] w (ANPost (RA p c xs ys) (RB p c xs ys) w) := by
  have k1 := Lib.hid (impl_CodeOk p c va xs w ha)
  cases h1 : COk p c xs with
  | false =>
    rw [h1] at k1
    have e1 : RA p c xs ys = -1 := if_neg (by rw [h1]; simp)
    have e2 : RB p c xs ys = -1 := if_neg (by rw [h1]; simp)
    rw [e1, e2]
    clear e1 e2 h1 ha hb
    go_enter Try.func18, Try.ntmps18
    go_wp2_with fail
    refine k1.out.mono ?_
    rintro e w1 ⟨rfl, hb1⟩
    go_wp2_with fail
    go_ret2
    exact ⟨rfl, hb1⟩
  | true =>
    rw [h1] at k1
    cases h2 : COk p c ys with
    | false =>
      have e1 : RA p c xs ys = -1 := if_neg (by rw [h2]; simp)
      have e2 : RB p c xs ys = -1 := if_neg (by rw [h2]; simp)
      rw [e1, e2]
      clear e1 e2 h1 ha
      go_enter Try.func18, Try.ntmps18
      go_wp2_with fail
      refine k1.out.mono ?_
      rintro e w1 ⟨rfl, hb1⟩
      have k2 := Lib.hid (impl_CodeOk p c vb ys w1 (hb.below hb1))
      rw [h2] at k2
      clear h2
      go_wp2_with fail
      refine k2.out.mono ?_
      rintro e w2 ⟨rfl, hb2⟩
      have hbb := hb1.trans (hb2.mono hb1.size)
      clear hb1 hb2 hb
      go_wp2_with fail
      go_ret2
      exact ⟨rfl, hbb⟩
    | true =>
      have e1 : RA p c xs ys = eqs xs ys xs.length := if_pos ⟨h1, h2⟩
      have e2 : RB p c xs ys = (com xs ys xs.length 5 : Int) - eqs xs ys xs.length := if_pos ⟨h1, h2⟩
      rw [e1, e2]
      obtain ⟨⟨p1, p2⟩, ⟨c1, c2⟩, l1, b1⟩ := COk_is h1
      obtain ⟨_, _, l2, b2⟩ := COk_is h2
      obtain ⟨C, rfl⟩ := Int.eq_ofNat_of_zero_le (show 0 ≤ c by omega)
      have ly : ys.length = xs.length := by omega
      have KA := Lib.hid (fun w3 (b : Below w.heap.size w w3) => answer_any xs.length C va vb xs ys w3 (ha.below b) (hb.below b) (by omega) (by omega) (by omega) rfl ly b1 (fun j hj => b2 j (by omega)))
      clear e1 e2 b1 b2 l1 l2 ly h1
      generalize eqs xs ys xs.length = r at *
      generalize (com xs ys xs.length 5 : Int) - r = q at *
      have HBV := Lib.hid hb
      clear ha hb
      go_enter Try.func18, Try.ntmps18
      go_wp2_with fail
      refine k1.out.mono ?_
      rintro e w1 ⟨rfl, hb1⟩
      have k2 := Lib.hid (impl_CodeOk p C vb ys w1 (HBV.out.below hb1))
      rw [h2] at k2
      clear h2 HBV
      go_wp2_with fail
      refine k2.out.mono ?_
      rintro e w2 ⟨rfl, hb2⟩
      have hbb := hb1.trans (hb2.mono hb1.size)
      have ka := Lib.hid (KA.out w2 hbb)
      clear hb1 hb2 k1 k2 KA
      go_wp2_with fail
      refine ka.out.mono ?_
      rintro e w3 ⟨rfl, hb3⟩
      have hb4 := hbb.trans (hb3.mono hbb.size)
      clear ka hbb hb3
      go_wp2_with fail
      go_quiet (fail)
      go_wp2_with fail
      go_ret2
      refine ⟨rfl, ?_⟩
      have s4 := hb4.size
      first
        | exact below_drewN ((hb4.alloc s4 _)) _
        | exact below_drewN ((hb4.alloc s4 _).setCell s4 _) _
        | exact below_drewN (((hb4.alloc s4 _).setCell s4 _).setCell s4 _) _

set_option maxHeartbeats 1000000 in
theorem law_FnExactAnswerTo (b0 b1 : Int) (a0 : Option Addr) (len0 cap0 : Nat) (z0 : List Int) (a1 : Option Addr) (len1 cap1 : Nat) (z1 : List Int) (w : World) (_ : (Lit.int .i64 b0).wf = true) (_ : (Lit.int .i64 b1).wf = true) (w0 : IsRow .i64 w a0 len0 cap0 z0) (w1 : IsRow .i64 w a1 len1 cap1 z1) :
    Calls Try.prog 4 #[.int .i64 b0, .int .i64 b1, .slice a0 len0 cap0, .slice a1 len1 cap1] w fun e w' => e = .returned (.bool true) ∧ Below w.heap.size w w' := by
  obtain ⟨hr, hm, hlen⟩ := Rd.of_row w0
  obtain ⟨hs, hm1, hlen1⟩ := Rd.of_row w1
  clear w0 w1
  generalize z0.take len0 = xs at *
  generalize z1.take len1 = qs at *
  unfold maxLen at hm hm1
  by_cases hl : 1048576 < len0
  · go_enter Try.func4, Try.ntmps4
    go_wp2_with fail
    go_ret
    exact ⟨rfl, Below.refl _ _⟩
  · by_cases hl1 : 1048576 < len1
    · go_enter Try.func4, Try.ntmps4
      go_wp2_with fail
      go_ret
      exact ⟨rfl, Below.refl _ _⟩
    · have hx : xs.length ≤ 1048576 := by omega
      have hy : qs.length ≤ 1048576 := by omega
      clear hlen hm hlen1 hm1
      have hr0 := Lib.hid hr
      have hs0 := Lib.hid hs
      clear hr hs
      have kr := Lib.hid (fun va vb w ha hb => spec_AnswerTo b0 b1 va vb xs qs w ha hb)
      have kq := Lib.hid (fun va vb w ha hb => impl_AnswerTo b0 b1 va vb xs qs w ha hb)
      generalize RA b0 b1 xs qs = r at *
      generalize RB b0 b1 xs qs = q at *
      go_enter Try.func4, Try.ntmps4
      go_wp2_with fail
      refine (toIntS_any _ xs _ hr0.out hx).mono ?_
      rintro e w1 ⟨u1, rfl, o1, hb1⟩
      have B1 := hb1
      go_wp2_with fail
      refine (toIntS_any _ qs _ (hs0.out.below B1) hy).mono ?_
      rintro e w2 ⟨u2, rfl, o2, hb2⟩
      have B2 := B1.trans (hb2.mono B1.size)
      go_wp2_with fail
      refine (kr.out _ _ _ (o1.below hb2).rd o2.rd).mono ?_
      rintro e w3 ⟨rfl, hb3⟩
      have B3 := B2.trans (hb3.mono B2.size)
      go_wp2_with fail
      refine (toIntS_any _ xs _ (hr0.out.below B3) hx).mono ?_
      rintro e w4 ⟨u4, rfl, o4, hb4⟩
      have B4 := B3.trans (hb4.mono B3.size)
      go_wp2_with fail
      refine (toIntS_any _ qs _ (hs0.out.below B4) hy).mono ?_
      rintro e w5 ⟨u5, rfl, o5, hb5⟩
      have B5 := B4.trans (hb5.mono B4.size)
      have o4 := o4.below hb5
      go_wp2_with fail
      refine (kq.out _ _ _ o4.rd o5.rd).mono ?_
      rintro e w6 ⟨rfl, hb6⟩
      have B6 := B5.trans (hb6.mono B5.size)
      have o4 := o4.below hb6
      have o5 := o5.below hb6
      go_wp2_with fail
      refine (toIntS_any _ xs _ (hr0.out.below B6) hx).mono ?_
      rintro e w7 ⟨u7, rfl, o7, hb7⟩
      have B7 := B6.trans (hb7.mono B6.size)
      have o4 := o4.below hb7
      have o5 := o5.below hb7
      go_wp2_with fail
      refine (eqIntS_yes _ _ xs _ o4.rd o7.rd).mono ?_
      rintro e w8 ⟨rfl, hb8⟩
      have B8 := B7.trans (hb8.mono B7.size)
      have o5 := o5.below hb8
      go_wp2_with fail
      refine (toIntS_any _ qs _ (hs0.out.below B8) hy).mono ?_
      rintro e w9 ⟨u9, rfl, o9, hb9⟩
      have B9 := B8.trans (hb9.mono B8.size)
      have o5 := o5.below hb9
      go_wp2_with fail
      refine (eqIntS_yes _ _ qs _ o5.rd o9.rd).mono ?_
      rintro e w10 ⟨rfl, hb10⟩
      have B10 := B9.trans (hb10.mono B9.size)
      go_wp2_with fail
      go_ret
      exact ⟨rfl, B10⟩
end Go.Proofs.Ytkkjgcpkimjfkaa
