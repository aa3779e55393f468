/- AllCodes; the law FnExactAllCodes. -/
import Derived.Test.YtkkjgcpkimjfkaaProg
import Derived.Test.YtkkjgcpkimjfkaaRows6
import Derived.Test.YtkkjgcpkimjfkaaRows2
namespace Go.Proofs.Ytkkjgcpkimjfkaa
open Go.RowKit

theorem impl_AllCodes (p c : Int) (w : World) :
    Calls Try.prog 20 #[.int .i64 p, .int .i64 c] w fun e w' => (∃ v us, e = .returned v ∧ OwR w' w.heap.size v us (AC p c)) ∧ Below w.heap.size w w' := by
  have kc := Lib.hid (impl_codes p c)
  cases hcs : CsOk p c with
  | false =>
    rw [AC_no (of_decide_eq_false hcs)]
    rw [hcs] at kc
    clear hcs
    go_enter Try.func20, Try.ntmps20
    go_wp2_with (first | (go_at_call 42; (with_reducible refine (kc.out _).mono ?_); rintro e w' ⟨rfl, rfl⟩))
    go_ret
    exact ⟨⟨_, [], rfl, OwR.nil _ _⟩, Below.refl _ _⟩
  | true =>
    obtain ⟨⟨p1, p2⟩, c1, c2⟩ := of_decide_eq_true hcs
    rw [hcs] at kc
    clear hcs
    obtain ⟨p, rfl⟩ := Int.eq_ofNat_of_zero_le (show 0 ≤ p by omega)
    obtain ⟨c, rfl⟩ := Int.eq_ofNat_of_zero_le (show 0 ≤ c by omega)
    rw [AC_yes (by omega) (by omega) (by omega) (by omega)]
    have ka := Lib.hid (fun w => allRows_any p c (by omega) (by omega) (by omega) w)
    go_enter Try.func20, Try.ntmps20
    go_wp2_with (first | (go_at_call 42; (with_reducible refine (kc.out _).mono ?_); rintro e w' ⟨rfl, rfl⟩))
    refine (ka.out _).mono ?_
    rintro e w1 ⟨⟨v, us, rfl, ho⟩, hb⟩
    have HO := Lib.hid ho
    have HB := Lib.hid hb
    clear ho hb
    go_wp2_with fail
    go_ret
    exact ⟨⟨_, us, rfl, HO.out⟩, HB.out⟩

theorem ext_lens (c k : Nat) (j : Nat) (hj : j < (ext c k []).length) : ((ext c k []).getD j []).length = k := by
  have := ext_len c k [] ((ext c k []).getD j []) (by rw [List.getD_eq_getElem?_getD, List.getElem?_eq_getElem hj]; exact List.getElem_mem hj)
  simpa using this
theorem ext_count_le (c k : Nat) (hc : c ≤ 5) (hk : k ≤ 3) : (ext c k []).length ≤ 125 := by
  rw [ext_count]
  calc c ^ k ≤ 5 ^ k := Nat.pow_le_pow_left hc k
    _ ≤ 5 ^ 3 := Nat.pow_le_pow_right (by omega) hk
theorem AC_facts (p c : Int) : ∃ p0 : Nat, p0 ≤ 3 ∧ (AC p c).length ≤ 125 ∧ ∀ j, j < (AC p c).length → ((AC p c).getD j []).length = p0 := by
  by_cases h : (1 ≤ p ∧ p ≤ 3) ∧ (1 ≤ c ∧ c ≤ 5)
  · obtain ⟨p, rfl⟩ := Int.eq_ofNat_of_zero_le (show 0 ≤ p by omega)
    obtain ⟨c, rfl⟩ := Int.eq_ofNat_of_zero_le (show 0 ≤ c by omega)
    rw [AC_yes (by omega) (by omega) (by omega) (by omega)]
    exact ⟨p, by omega, ext_count_le c p (by omega) (by omega), fun j hj => ext_lens c p j hj⟩
  · rw [AC_no h]
    exact ⟨0, by omega, by simp, fun j hj => by simp at hj⟩

set_option maxHeartbeats 2000000 in
theorem law_FnExactAllCodes (b0 b1 : Int) (w : World) (_ : (Lit.int .i64 b0).wf = true) (_ : (Lit.int .i64 b1).wf = true) :
    Calls Try.prog 5 #[.int .i64 b0, .int .i64 b1] w fun e w' => e = .returned (.bool true) ∧ Below w.heap.size w w' := by
  have ks := Lib.hid (spec_AllCodes b0 b1)
  have ki := Lib.hid (impl_AllCodes b0 b1)
  obtain ⟨p0, hp0, hlen, huni⟩ := AC_facts b0 b1
  generalize AC b0 b1 = rows at *
  have HU := Lib.hid huni
  generalize hn : rows.length = n at *
  have HN := Lib.hid hn
  have hnp : n * p0 ≤ 125 * 3 := Nat.mul_le_mul hlen hp0
  obtain ⟨q, hq⟩ : ∃ q, q = n * p0 := ⟨_, rfl⟩
  rw [← hq] at hnp
  have HQ := Lib.hid hq
  clear huni hn hq
  go_enter Try.func5, Try.ntmps5
  go_wp2_with fail
  refine (ks.out _).mono ?_
  rintro e w1 ⟨⟨v1, rfl, r1⟩, hb1⟩
  have R1 := Lib.hid r1
  have B1 := Lib.hid hb1
  clear r1 hb1
  go_wp2_with fail
  refine (ki.out _).mono ?_
  rintro e w2 ⟨⟨g0, us, rfl, o2⟩, hb2⟩
  have O2 := Lib.hid o2
  have B2 := Lib.hid hb2
  clear o2 hb2
  go_wp2_with fail
  refine (eqIntSS_yes _ _ rows _ O2.out.rd (R1.out.below B2.out)).mono ?_
  rintro e w3 ⟨rfl, hb3⟩
  have B3 := Lib.hid (B2.out.trans (hb3.mono B2.out.size))
  have O3 := Lib.hid (O2.out.below hb3)
  clear hb3 O2
  go_wp2_with fail
  refine (markIntSS_any _ us rows 1 p0 n _ _ O3.out HN.out HU.out (by omega) (by omega) (by omega) (by omega) B3.out.size).mono ?_
  rintro e w4 ⟨rfl, ⟨rows', o4, hM⟩, hb4⟩
  rw [← HQ.out]
  have O4 := Lib.hid o4
  have HM := Lib.hid hM
  have B4 := Lib.hid (B3.out.trans hb4)
  clear o4 hM hb4 O3
  go_wp2_with fail
  refine (heldIntSS_yes _ 1 p0 n rows' _ O4.out.rd HM.out (by omega) (by omega) (by omega) (by omega)).mono ?_
  rintro e w5 ⟨rfl, hb5⟩
  rw [← HQ.out]
  have B5 := Lib.hid (B4.out.trans (hb5.mono B4.out.size))
  have O5 := Lib.hid (O4.out.below hb5)
  clear hb5 O4
  go_wp2_with fail
  refine (ki.out _).mono ?_
  rintro e w6 ⟨⟨h0, us6, rfl, o6⟩, hb6⟩
  have B6 := Lib.hid (B5.out.trans (hb6.mono B5.out.size))
  have O6 := Lib.hid (O5.out.below hb6)
  have P6 := Lib.hid o6
  clear o6 hb6 O5
  go_wp2_with fail
  refine (eqIntSS_yes _ _ rows _ P6.out.rd (R1.out.below B6.out)).mono ?_
  rintro e w7 ⟨rfl, hb7⟩
  have B7 := Lib.hid (B6.out.trans (hb7.mono B6.out.size))
  have O7 := Lib.hid (O6.out.below hb7)
  clear hb7 O6 P6
  go_wp2_with fail
  refine (heldIntSS_yes _ 1 p0 n rows' _ O7.out.rd HM.out (by omega) (by omega) (by omega) (by omega)).mono ?_
  rintro e w8 ⟨rfl, hb8⟩
  rw [← HQ.out]
  have B8 := Lib.hid (B7.out.trans (hb8.mono B7.out.size))
  clear hb8
  go_wp2_with fail
  go_ret
  exact ⟨rfl, B1.out.trans (B8.out.mono B1.out.size)⟩
end Go.Proofs.Ytkkjgcpkimjfkaa
