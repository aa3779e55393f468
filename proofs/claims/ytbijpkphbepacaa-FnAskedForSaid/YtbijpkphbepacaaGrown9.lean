/- The law FnAskedFor. -/
import Derived.Test.YtbijpkphbepacaaProg
import Derived.Test.YtbijpkphbepacaaGrown4
import Derived.Test.YtbijpkphbepacaaTreeM
import Derived.Test.YtbijpkphbepacaaAlive
namespace Go.Proofs.Ytbijpkphbepacaa
open Go.RowKit

set_option maxHeartbeats 2000000 in
theorem law_FnAskedFor (a0 : Option Addr) (len0 cap0 : Nat) (z0 : List Int) (w : World) (w0 : IsRow .u8 w a0 len0 cap0 z0) :
    Calls Try.prog 11 #[.slice a0 len0 cap0] w fun e w' => e = .returned (.bool true) ∧ Below w.heap.size w w' := by
  have hc := Code8.of_row w0
  clear w0
  by_cases hl : 1048576 < len0
  · go_enter Try.func11, Try.ntmps11
    go_wp2_with fail
    go_ret
    exact ⟨rfl, Below.refl _ _⟩
  · go_enter Try.func11, Try.ntmps11
    go_wp2_with fail
    refine (draw_AskedFor _ _ _ _ hc).mono ?_
    rintro e w1 ⟨m, s, x, rfl, hm1, hm2, hs, hx1, hx2, hb1⟩
    have k0 := Lib.hid (fun w => spec_TreeOk m s (by omega) w)
    have k1 := Lib.hid (fun w => impl_AskedFor m x s (by omega) w)
    have k2 := Lib.hid (fun w => spec_AskedFor m x s (by omega) w)
    have k3 := Lib.hid (fun w => impl_DepthsOf2 m s (by omega) w)
    have k4 := Lib.hid (fun y w => impl_AskedFor m y s (by omega) w)
    have hlen := AF_len m x s.data.toList
    clear hc
    go_wp2_with fail
    refine (k1.out _).mono ?_
    rintro e w2 ⟨v, rfl, o2, hb2⟩
    go_wp2_with fail
    refine (k2.out _).mono ?_
    rintro e w3 ⟨u, rfl, o3, hb3⟩
    have o2 := o2.below hb3
    go_wp2_with fail
    refine (sameInts_yes _ _ (AF m s.data.toList x) _ o2.rd o3.rd).mono ?_
    rintro e w4 ⟨rfl, hb4⟩
    have o4 := o2.rd.below hb4
    have hbel : Below w.heap.size w w4 := hb1.trans ((hb2.mono hb1.size).trans ((hb3.mono (Nat.le_trans hb1.size hb2.size)).trans (hb4.mono (Nat.le_trans (Nat.le_trans hb1.size hb2.size) hb3.size))))
    clear hb1 hb2 hb3 hb4 o2 o3 k1 k2
    cases ht : TO m s.data.toList with
    | none =>
      rw [AF_none ht] at o4
      rw [show TB m s.data.toList = false by unfold TB; rw [ht]; rfl] at k0
      clear ht k3 k4 hlen
      obtain ⟨a, ca, rfl, _, _⟩ := o4
      go_wp2_with fail
      refine (k0.out _).mono ?_
      rintro e w5 ⟨rfl, hb5⟩
      have hb6 := hbel.trans (hb5.mono hbel.size)
      clear hbel hb5
      go_wp2_with (first | (go_at_call 30; refine (alive_any _).mono ?_; rintro e w6 ⟨rfl, rfl⟩))
      go_ret
      exact ⟨rfl, hb6⟩
    | some t =>
      rw [show TB m s.data.toList = true by unfold TB; rw [ht]; rfl] at k0
      by_cases hin : 0 ≤ x ∧ x ≤ (m : Int) - 1
      · obtain ⟨i, rfl⟩ := Int.eq_ofNat_of_zero_le hin.1
        have him : i < m := by omega
        have hg := (TO_some.1 ht).2.2
        rw [Int.toNat_natCast] at hg
        have hL : DO m s.data.toList = DL m t := by rw [DO_some ht, Int.toNat_natCast]
        have k5 : ∀ (j : Nat) w, j < m → Calls Try.prog 18 #[.int .i64 m, .string s, .int .i64 j] w (SPost (ask t (letter j)) w) := by
          intro j w hj
          have := k4.out j w
          rw [AF_some ht (by omega), Int.toNat_natCast] at this
          exact this
        have hne : ∀ j, j < m → j ≠ i → ask t (letter j) ≠ ask t (letter i) := fun j hj hji => ask_ne t _ _ (hg.2.2 j hj) (hg.2.2 i him) (fun e => hji (letter_inj (by omega) (by omega) e))
        have hdep := DL_getD m t i him
        have hdl := DL_length m t
        have hask : ((ask t (letter i)).length : Int) = (dep t i : Int) := rfl
        rw [AF_some ht (by omega), Int.toNat_natCast] at o4 hlen
        rw [hL] at k3
        have K5 := Lib.hid k5
        have HNE := Lib.hid hne
        have HD := Lib.hid hdep
        generalize DL m t = D at *
        generalize dep t i = d at *
        have HK := Lib.hid hask
        clear ht hg hL k4 k5 hne hdep hask
        obtain ⟨A, hA⟩ : ∃ A, A = ask t (letter i) := ⟨_, rfl⟩
        rw [← hA] at o4 hlen
        have HA := Lib.hid hA
        clear hA
        have O4 := Lib.hid o4
        obtain ⟨a, ca, rfl, hca, ho⟩ := o4
        clear ho
        go_wp2_with fail
        refine (k0.out _).mono ?_
        rintro e w5 ⟨rfl, hb5⟩
        have O5 := Lib.hid (O4.out.below hb5)
        have hb6 := hbel.trans (hb5.mono hbel.size)
        clear hbel hb5 O4 k0
        go_wp2_with fail
        refine (k3.out _).mono ?_
        rintro e w6 ⟨v6, rfl, o6, hb7⟩
        have O6 := Lib.hid (O5.out.below hb7)
        have P6 := Lib.hid o6.rd
        obtain ⟨a6, ca6, rfl, _, _⟩ := o6.rd
        have HB := Lib.hid (hb6.trans (hb7.mono hb6.size))
        clear hb6 hb7 o6 O5 k3
        go_wp2_with fail
        go_loopw [8] (fun v wr => ∃ k : Nat, k ≤ m ∧ v = .int .i64 k ∧ Below w6.heap.size w6 wr) (fun v _ => m - (intOf v).toNat)
        case atStart => exact ⟨0, by omega, rfl, Below.refl _ _⟩
        case round =>
          obtain ⟨k, hk, rfl, hbr⟩ := hrel
          by_cases hlt : k < m
          · by_cases hki : k = i
            · subst hki
              go_wp2_with fail
              go_roundw
              case rel => exact ⟨k + 1, by omega, by go_num, hbr⟩
              case measure => simp [intOf]; omega
            · have hki2 : ((k : Int) == (i : Int)) = false := by rw [beq_eq_false_iff_ne]; omega
              have hnk := Lib.hid (HNE.out k hlt hki)
              have hki3 : ¬ (k : Int) = (i : Int) := by omega
              go_wp2_with fail
              refine (K5.out k _ hlt).mono ?_
              rintro e w7 ⟨v7, rfl, o7, hb7⟩
              go_wp2_with fail
              refine (sameInts_no _ _ _ A _ o7.rd ((O6.out.below hbr).below hb7) (by rw [HA.out]; exact hnk.out)).mono ?_
              rintro e w8 ⟨rfl, hb8⟩
              have hb9 := hbr.trans ((hb7.mono hbr.size).trans (hb8.mono (Nat.le_trans hbr.size hb7.size)))
              clear hb7 hb8 hbr o7 hnk
              go_wp2_with fail
              go_roundw
              case rel => exact ⟨k + 1, by omega, by go_num, hb9⟩
              case measure => simp [intOf]; omega
          · have hb := HB.out.trans (hbr.mono HB.out.size)
            have hmi : i < D.length := by omega
            obtain ⟨a7, ca7, e7, _, h7⟩ := (P6.out.below hbr)
            injection e7 with e71 e72 e73
            subst e71
            obtain ⟨g, off, e8, hc8⟩ := h7 (by intro e; rw [e] at hmi; simp at hmi)
            subst e8
            have hci := hc8 i hmi
            rw [HD.out] at hci
            have hal : (A.length : Int) = (d : Int) := by rw [HA.out]; exact HK.out
            have hi0 : (0 : Int) ≤ (i : Int) := by omega
            have hi1 : (i : Int) < (D.length : Int) := by omega
            clear hc8 h7 hbr
            go_wp2_with fail
            go_ret
            exact ⟨rfl, hb⟩
      · rw [AF_out hin] at o4
        clear ht k3 k4 hlen
        obtain ⟨a, ca, rfl, _, _⟩ := o4
        by_cases hx0 : x < 0
        · clear hin
          go_wp2_with fail
          refine (k0.out _).mono ?_
          rintro e w5 ⟨rfl, hb5⟩
          have hb6 := hbel.trans (hb5.mono hbel.size)
          clear hbel hb5
          go_wp2_with (first | (go_at_call 30; refine (alive_any _).mono ?_; rintro e w6 ⟨rfl, rfl⟩))
          go_ret
          exact ⟨rfl, hb6⟩
        · have hx3 : (m : Int) ≤ x := by omega
          clear hin
          go_wp2_with fail
          refine (k0.out _).mono ?_
          rintro e w5 ⟨rfl, hb5⟩
          have hb6 := hbel.trans (hb5.mono hbel.size)
          clear hbel hb5
          go_wp2_with (first | (go_at_call 30; refine (alive_any _).mono ?_; rintro e w6 ⟨rfl, rfl⟩))
          go_ret
          exact ⟨rfl, hb6⟩
end Go.Proofs.Ytbijpkphbepacaa
