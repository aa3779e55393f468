/- The law FnAnswerTo. -/
import Derived.Test.YtkkjgcpkimjfkaaProg
import Derived.Test.YtkkjgcpkimjfkaaCodes5
import Derived.Test.YtkkjgcpkimjfkaaCodesP
import Derived.Test.YtkkjgcpkimjfkaaCodes2
namespace Go.Proofs.Ytkkjgcpkimjfkaa
open Go.RowKit

set_option maxHeartbeats 1000000 in
theorem draw_AnswerTo (a : Option Addr) (len cap : Nat) (w : World) (h : Code8 w a len cap) :
    Calls Try.prog 34 #[.slice a len cap] w fun e w' => ∃ (v u : Value) (L M : List Int) (p c : Nat), e = .returned (.tuple #[.int .i64 p, .int .i64 c, v, u]) ∧ 1 ≤ p ∧ p ≤ 3 ∧ 1 ≤ c ∧ c ≤ 4 ∧ Rd w' v L ∧ Rd w' u M ∧ Below w.heap.size w w' := by
  go_enter Try.func34, Try.ntmps34
  go_wp2_with fail
  refine (open_any a len cap w h).mono ?_
  rintro e w1 ⟨rfl, hr, hb⟩
  have hlt := hr.lt
  have hrU := hr.toU
  clear hr
  go_wp2_with fail
  refine (size_any w.heap.size 0 (by omega) _ w1 hrU).mono ?_
  rintro e w2 ⟨p, c, rfl, hp, hp2, hc, hc2, hr2, hg2⟩
  have hs2 := hg2.size
  go_wp2_with fail
  refine (code_any w.heap.size 2 p c 12 hp hp2 hc (by omega) (by omega) (by omega) (by omega) w2 (hr2.base hs2)).mono ?_
  rintro e w3 ⟨v, L, rfl, hown, hL, hr3, hg3⟩
  have hs3 := hg3.size
  clear hr2 hrU
  go_wp2_with fail
  refine (code_any w.heap.size 7 p c 12 hp hp2 hc (by omega) (by omega) (by omega) (by omega) w3 (hr3.base hs3)).mono ?_
  rintro e w4 ⟨u, M, rfl, hownM, hM, hr4, hg4⟩
  have hown4 := owns_grown hown hg4 (by omega)
  clear hr3 hr4 hown
  go_wp2_with fail
  refine bodyPost_ret (v := .tuple #[.int .i64 p, .int .i64 c, v, u]) (by simp [results, Try.results34, go_sem]) rfl ?_
  exact ⟨v, u, L, M, p, c, rfl, hp, hp2, hc, hc2, (Ow.of_row hown4 (by simp only [maxLen]; omega)).rd, (Ow.of_row hownM (by simp only [maxLen]; omega)).rd, hb.trans (below_of_grownBy (grownBy_then2 (grownBy_then2 hg2 hg3) hg4) hb.size (Nat.le_refl _))⟩

theorem RA_no {p c : Int} {xs ys : List Int} (h : ¬ (COk p c xs = true ∧ COk p c ys = true)) : RA p c xs ys = -1 ∧ RB p c xs ys = -1 := ⟨if_neg h, if_neg h⟩
theorem RA_yes {p c : Int} {xs ys : List Int} (h1 : COk p c xs = true) (h2 : COk p c ys = true) : RA p c xs ys = (eqs xs ys xs.length : Int) ∧ RB p c xs ys = (com xs ys xs.length 5 : Int) - eqs xs ys xs.length := ⟨if_pos ⟨h1, h2⟩, if_pos ⟨h1, h2⟩⟩
theorem COk_all {p c : Int} {xs : List Int} (h : COk p c xs = true) : ∀ x ∈ xs, 0 ≤ x ∧ x < c := by
  intro x hx
  obtain ⟨j, hj, rfl⟩ := List.mem_iff_getElem.1 hx
  have := (COk_is h).2.2.2 j hj
  rwa [List.getD_eq_getElem?_getD, List.getElem?_eq_getElem hj] at this

set_option maxHeartbeats 2000000 in
theorem law_FnAnswerTo (a0 : Option Addr) (len0 cap0 : Nat) (z0 : List Int) (w : World) (w0 : IsRow .u8 w a0 len0 cap0 z0) :
    Calls Try.prog 9 #[.slice a0 len0 cap0] w fun e w' => e = .returned (.bool true) ∧ Below w.heap.size w w' := by
  have hc := Code8.of_row w0
  clear w0
  by_cases hl : 1048576 < len0
  · go_enter Try.func9, Try.ntmps9
    go_wp2_with fail
    go_ret
    exact ⟨rfl, Below.refl _ _⟩
  · go_enter Try.func9, Try.ntmps9
    go_wp2_with fail
    refine (draw_AnswerTo _ _ _ _ hc).mono ?_
    rintro e w1 ⟨v, u, xs, ys, p, c, rfl, hp, hp2, hcc, hc2, hr, hs, hb1⟩
    have R1 := Lib.hid hr
    have S1 := Lib.hid hs
    clear hc hr hs
    have kr := Lib.hid (fun w ha hb => spec_AnswerTo p c v u xs ys w ha hb)
    have kq := Lib.hid (fun w ha hb => impl_AnswerTo p c v u xs ys w ha hb)
    have kz := Lib.hid (fun w ha hb => impl_AnswerTo p c u v ys xs w ha hb)
    go_wp2_with fail
    refine (kq.out _ R1.out S1.out).mono ?_
    rintro e w2 ⟨rfl, hb2⟩
    have R2 := Lib.hid (R1.out.below hb2)
    have S2 := Lib.hid (S1.out.below hb2)
    have B2 := hb1.trans (hb2.mono hb1.size)
    clear R1 S1 hb1 hb2
    go_wp2_with fail
    refine (kr.out _ R2.out S2.out).mono ?_
    rintro e w3 ⟨rfl, hb3⟩
    have R3 := Lib.hid (R2.out.below hb3)
    have S3 := Lib.hid (S2.out.below hb3)
    have B3 := B2.trans (hb3.mono B2.size)
    clear R2 S2 B2 hb3 kr kq
    by_cases hok : COk p c xs = true ∧ COk p c ys = true
    · obtain ⟨h1, h2⟩ := hok
      obtain ⟨_, _, l1, _⟩ := COk_is h1
      obtain ⟨_, _, l2, _⟩ := COk_is h2
      have lx : xs.length = p := by omega
      have ly : ys.length = p := by omega
      obtain ⟨e1, e2⟩ := RA_yes h1 h2
      obtain ⟨e3, e4⟩ := RA_yes h2 h1
      rw [lx] at e1 e2
      rw [ly, eqs_comm xs ys, com_comm xs ys] at e4
      rw [ly, eqs_comm xs ys] at e3
      obtain ⟨f1, f2⟩ := answer_facts (n := p) (by omega) (by omega) lx ly (fun x hx => by have := COk_all h1 x hx; omega) (fun x hx => by have := COk_all h2 x hx; omega)
      have f3 := eqs_full (n := p) lx ly
      have f4 := eqs_le xs ys p
      rw [e3, e4] at kz
      rw [e1, e2]
      clear e1 e2 e3 e4 h1 h2 l1 l2
      have HC : Hid (com xs ys p 5 ≤ p * 5) := com_le xs ys p 5
      generalize eqs xs ys p = E at *
      generalize com xs ys p 5 = M at *
      have HF2 := Lib.hid f2
      have HF3 := Lib.hid f3
      clear f2 f3 HC
      go_wp2_with fail
      refine (kz.out _ S3.out R3.out).mono ?_
      rintro e w4 ⟨rfl, hb4⟩
      have R4 := Lib.hid (R3.out.below hb4)
      have S4 := Lib.hid (S3.out.below hb4)
      have B4 := B3.trans (hb4.mono B3.size)
      clear R3 S3 B3 hb4 kz
      by_cases hxy : xs = ys
      · have hE : E = p := HF3.out.2 hxy
        subst hE
        have S5 := Lib.hid (show Rd w4 u xs by rw [hxy]; exact S4.out)
        clear hxy S4
        go_wp2_with fail
        refine (sameInts_yes _ _ xs _ R4.out S5.out).mono ?_
        rintro e w5 ⟨rfl, hb5⟩
        have B5 := B4.trans (hb5.mono B4.size)
        clear B4 hb5 R4 S5
        go_wp2_with fail
        go_ret
        exact ⟨rfl, B5⟩
      · have hE : ¬ (E : Int) = (p : Int) := fun h => hxy (HF3.out.1 (by omega))
        have hE2 : ((E : Int) == (p : Int)) = false := by rw [beq_eq_false_iff_ne]; exact hE
        go_wp2_with fail
        refine (sameInts_no _ _ xs ys _ R4.out S4.out hxy).mono ?_
        rintro e w5 ⟨rfl, hb5⟩
        have B5 := B4.trans (hb5.mono B4.size)
        clear B4 hb5 R4 S4 hxy
        by_cases hE1 : E + 1 = p
        · have hM := HF2.out hE1
          subst hM
          subst hE1
          go_wp2_with fail
          go_ret
          exact ⟨rfl, B5⟩
        · have hE3 : ¬ (E : Int) = (p : Int) - 1 := by omega
          have hE4 : ((E : Int) == (p : Int) - 1) = false := by rw [beq_eq_false_iff_ne]; exact hE3
          clear hE1
          go_wp2_with fail
          go_ret
          exact ⟨rfl, B5⟩
    · obtain ⟨e1, e2⟩ := RA_no hok
      rw [e1, e2]
      clear e1 e2 hok kz
      go_wp2_with (first | (go_at_call 33; refine (alive_any _).mono ?_; rintro e w5 ⟨rfl, rfl⟩))
      go_ret
      exact ⟨rfl, B3⟩
end Go.Proofs.Ytkkjgcpkimjfkaa
