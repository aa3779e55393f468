/- BestGuesses; the law FnExactBestGuesses. -/
import Derived.Test.YtpdijlpdkdhgpaaProg
import Derived.Test.YtpdijlpdkdhgpaaPrices16
namespace Go.Proofs.Ytpdijlpdkdhgpaa
open Go.RowKit

set_option maxHeartbeats 2000000 in
theorem l3Text_any (xs : List Int) (n : Nat) (gB cB : Nat) (ρ : Nat → Nat) (T : Nat → Nat → Int) (w0 : World) (hn9 : n ≤ 9) (hx : ∀ j, 0 ≤ xs.getD j 0 ∧ xs.getD j 0 ≤ 50)
    (hT : TabF w0 gB n ρ T) (hg : ∀ i j, i + 2 ≤ j → j ≤ n → T i j = (Fx xs i j : Nat)) (f : Nat) :
    ∀ (a b : Nat) (x y : Int) (w : World), x = a → y = b → b - a ≤ f → a ≤ b → b ≤ n → Below w0.heap.size w0 w →
    Calls Try.prog 29 #[.slice (some ⟨gB, 0, none⟩) (n + 1) cB, .int .i64 x, .int .i64 y] w (TxPost (Tx xs f a b) w) := by
  have HX := Lib.hid hx
  have HT := Lib.hid hT
  have HG := Lib.hid hg
  clear hx hT hg
  induction f with
  | zero =>
    intro a b x y w hxa hyb h hab hbn hbel
    obtain rfl : a = b := by omega
    subst hxa
    subst hyb
    clear hbel
    go_enter Try.func29, Try.ntmps29
    go_wp2_with fail
    go_ret
    exact ⟨_, rfl, rfl, Below.refl _ _⟩
  | succ f ih =>
    intro a b x y w hxa hyb h hab hbn hbel
    subst hxa
    subst hyb
    have IH := Lib.hid ih
    clear ih
    by_cases e : a = b
    · subst e
      have ht : Tx xs (f + 1) a a = [46] := Tx_short (Nat.le_refl _)
      rw [ht]
      clear ht hbel
      go_enter Try.func29, Try.ntmps29
      go_wp2_with fail
      go_ret
      exact ⟨_, rfl, rfl, Below.refl _ _⟩
    · have hlt : a < b := by omega
      have hq := Fx_in HX.out hlt
      have ht : Tx xs (f + 1) a b = _ := Tx_long hlt
      rw [ht]
      have l1 := Tx_len HX.out f a (Fx xs a b) (by omega) hq.1
      have l2 := Tx_len HX.out f (Fx xs a b + 1) b (by omega) (by omega)
      have hz0 := hbel.size
      have heq : ((b : Int) == (a : Int)) = false := by rw [beq_eq_false_iff_ne]; omega
      have hone : b ≤ a + 1 → Fx xs a b = a := fun h => if_pos h
      have htwo : a + 2 ≤ b → w.cell? ⟨gB, a, none⟩ = some (.slice (some ⟨ρ a, 0, none⟩) (n + 1) (n + 1)) ∧ w.cell? ⟨ρ a, b, none⟩ = some (.int .i64 (Fx xs a b : Nat)) := fun h => by
        have c1 := HT.out.cellg a (by omega)
        have c2 := (HT.out.row a (by omega) b (by omega)).1
        rw [HG.out a b h hbn] at c2
        exact ⟨(hbel.cell (p := ⟨gB, a, none⟩) (World.block_lt_of_cell? w0 _ c1)).trans c1, (hbel.cell (p := ⟨ρ a, b, none⟩) (World.block_lt_of_cell? w0 _ c2)).trans c2⟩
      generalize Fx xs a b = q at *
      have K1 := Lib.hid (IH.out a q a q w rfl rfl (by omega) (by omega) (by omega) hbel)
      have K2 := Lib.hid (fun W (hb : Below w.heap.size w W) => IH.out (q + 1) b ((q : Int) + 1) b W (by omega) rfl (by omega) (by omega) (by omega) (hbel.trans (hb.mono hz0)))
      clear ht hbel IH e
      by_cases h2 : a + 2 ≤ b
      · obtain ⟨hc1, hc2⟩ := htwo h2
        have hgt : (1 : Int) < (b : Int) - (a : Int) := by omega
        have i1 : (0 : Int) ≤ (a : Int) := by omega
        have i2 : (a : Int) < (n : Int) + 1 := by omega
        have i3 : (0 : Int) ≤ (b : Int) := by omega
        have i4 : (b : Int) < (n : Int) + 1 := by omega
        clear hone htwo
        go_enter Try.func29, Try.ntmps29
        go_wp2_with fail
        refine K1.out.mono ?_
        rintro e w1 ⟨s1, rfl, hs1, hb1⟩
        have hz1 : s1.size ≤ 100 := by rw [size_of_list hs1]; omega
        have k3 := Lib.hid (l1Number_dig q (by omega) (q : Int) rfl w1)
        have H1 := Lib.hid hs1
        have HB1 := Lib.hid hb1
        clear hs1 hb1
        go_wp2_with fail
        refine k3.out.mono ?_
        rintro e w2 ⟨s3, rfl, hs3, hb2⟩
        have hz3 : s3.size ≤ 100 := by rw [size_of_list hs3]; simp
        have HB2 := Lib.hid (HB1.out.trans (hb2.mono HB1.out.size))
        have k2 := Lib.hid (K2.out w2 HB2.out)
        have H3 := Lib.hid hs3
        clear hs3 hb2
        go_wp2_with fail
        refine k2.out.mono ?_
        rintro e w3 ⟨s2, rfl, hs2, hb3⟩
        have hz2 : s2.size ≤ 100 := by rw [size_of_list hs2]; omega
        have H2 := Lib.hid hs2
        have HB3 := Lib.hid (HB2.out.trans (hb3.mono HB2.out.size))
        clear hs2 hb3
        go_wp2_with fail
        go_ret
        refine ⟨_, rfl, ?_, HB3.out⟩
        rw [ByteArray.data_append, ByteArray.data_append, ByteArray.data_append, ByteArray.data_append]
        simp [H1.out, H2.out, H3.out]
      · have hqa : q = a := hone (by omega)
        subst hqa
        have hgt : ¬ (1 : Int) < (b : Int) - (q : Int) := by omega
        clear hone htwo
        go_enter Try.func29, Try.ntmps29
        go_wp2_with fail
        refine K1.out.mono ?_
        rintro e w1 ⟨s1, rfl, hs1, hb1⟩
        have hz1 : s1.size ≤ 100 := by rw [size_of_list hs1]; omega
        have k3 := Lib.hid (l1Number_dig q (by omega) (q : Int) rfl w1)
        have H1 := Lib.hid hs1
        have HB1 := Lib.hid hb1
        clear hs1 hb1
        go_wp2_with fail
        refine k3.out.mono ?_
        rintro e w2 ⟨s3, rfl, hs3, hb2⟩
        have hz3 : s3.size ≤ 100 := by rw [size_of_list hs3]; simp
        have HB2 := Lib.hid (HB1.out.trans (hb2.mono HB1.out.size))
        have k2 := Lib.hid (K2.out w2 HB2.out)
        have H3 := Lib.hid hs3
        clear hs3 hb2
        go_wp2_with fail
        refine k2.out.mono ?_
        rintro e w3 ⟨s2, rfl, hs2, hb3⟩
        have hz2 : s2.size ≤ 100 := by rw [size_of_list hs2]; omega
        have H2 := Lib.hid hs2
        have HB3 := Lib.hid (HB2.out.trans (hb3.mono HB2.out.size))
        clear hs2 hb3
        go_wp2_with fail
        go_ret
        refine ⟨_, rfl, ?_, HB3.out⟩
        rw [ByteArray.data_append, ByteArray.data_append, ByteArray.data_append, ByteArray.data_append]
        simp [H1.out, H2.out, H3.out]

/-- the text of the best way of guessing -/
def BG (xs : List Int) : List UInt8 := if POk xs = true then Tx xs 9 0 xs.length else []
theorem BG_bad {xs : List Int} (h : POk xs = false) : BG xs = [] := by unfold BG; rw [h]; rfl
theorem BG_ok {xs : List Int} (h : POk xs = true) : BG xs = Tx xs 9 0 xs.length := if_pos h

set_option maxHeartbeats 1000000 in
theorem impl_BestGuesses (v : Value) (xs : List Int) (w : World) (h : Rd w v xs) : Calls Try.prog 19 #[v] w (TxPost (BG xs) w) := by
  have k0 := Lib.hid (impl_PricesOk v xs w h)
  cases hok : POk xs with
  | false =>
    rw [BG_bad hok]
    rw [hok] at k0
    clear hok h
    go_enter Try.func19, Try.ntmps19
    go_wp2_with fail
    refine k0.out.mono ?_
    rintro e w1 ⟨rfl, hb1⟩
    go_wp2_with fail
    go_ret
    exact ⟨_, rfl, rfl, hb1⟩
  | true =>
    rw [BG_ok hok]
    rw [hok] at k0
    have hx := POk_all hok
    have hn9 := (POk_bd hok).1
    have HX := Lib.hid hx
    have HR := Lib.hid h
    obtain ⟨ao, ca, rfl, _, _⟩ := h
    clear hok hx
    go_enter Try.func19, Try.ntmps19
    go_wp2_with fail
    refine k0.out.mono ?_
    rintro e w1 ⟨rfl, hb1⟩
    have K1 := Lib.hid (plansFor_any xs xs.length _ w1 rfl hn9 HX.out (HR.out.below hb1))
    clear k0
    go_wp2_with fail
    refine K1.out.mono ?_
    rintro e w2 ⟨Bp, BN, BF, mN, mF, f, g, rfl, hp, hN, hF, hs, hb2⟩
    have K2 := Lib.hid (text_any xs xs.length _ Bp BN BF mF g w2 hn9 HX.out hp hF (fun i j h1 h2 => hs.first i j h1 h2 (.inl (by omega))) 9 0 xs.length 0 xs.length w2 rfl rfl (by omega) (by omega) (Nat.le_refl _) (Below.refl _ _))
    have HB := Lib.hid (hb1.trans (hb2.mono hb1.size))
    clear hp hN hF hs hb1 hb2 K1
    go_wp2_with fail
    refine K2.out.mono ?_
    rintro e w3 ⟨s, rfl, hs, hb3⟩
    have HS := Lib.hid hs
    clear hs
    go_wp2_with fail
    go_ret
    exact ⟨_, rfl, HS.out, HB.out.trans (hb3.mono HB.out.size)⟩

set_option maxHeartbeats 1000000 in
theorem spec_BestGuesses (v : Value) (xs : List Int) (w : World) (h : Rd w v xs) : Calls Try.prog 18 #[v] w (TxPost (BG xs) w) := by
  have k0 := Lib.hid (spec_PricesOk v xs w h)
  cases hok : POk xs with
  | false =>
    rw [BG_bad hok]
    rw [hok] at k0
    clear hok h
    go_enter Try.func18, Try.ntmps18
    go_wp2_with fail
    refine k0.out.mono ?_
    rintro e w1 ⟨rfl, rfl⟩
    go_wp2_with fail
    go_ret
    exact ⟨_, rfl, rfl, Below.refl _ _⟩
  | true =>
    rw [BG_ok hok]
    rw [hok] at k0
    have hn9 := (POk_bd hok).1
    have HX := Lib.hid (POk_all hok)
    have K1 := Lib.hid (table_any xs xs.length v w rfl hn9 (POk_all hok) h)
    obtain ⟨ao, ca, rfl, _, _⟩ := h
    clear hok
    go_enter Try.func18, Try.ntmps18
    go_wp2_with fail
    refine k0.out.mono ?_
    rintro e w1 ⟨rfl, rfl⟩
    clear k0
    go_wp2_with fail
    refine K1.out.mono ?_
    rintro e w2 ⟨gC, gB, cC, cB, ρC, ρB, TC, TB, rfl, hC, hB, hs, hb⟩
    have K2 := Lib.hid (l3Text_any xs xs.length gB cB ρB TB w2 hn9 HX.out hB (fun i j h1 h2 => hs.2 i j h1 h2 (.inl (by omega))) 9 0 xs.length 0 xs.length w2 rfl rfl (by omega) (by omega) (Nat.le_refl _) (Below.refl _ _))
    have HB := Lib.hid hb
    clear hC hB hs hb K1
    go_wp2_with fail
    refine K2.out.mono ?_
    rintro e w3 ⟨s, rfl, hs, hb3⟩
    have HS := Lib.hid hs
    clear hs
    go_wp2_with fail
    go_ret
    exact ⟨_, rfl, HS.out, HB.out.trans (hb3.mono HB.out.size)⟩

set_option maxHeartbeats 1000000 in
theorem law_FnExactBestGuesses (a0 : Option Addr) (len0 cap0 : Nat) (z0 : List Int) (w : World) (w0 : IsRow .i64 w a0 len0 cap0 z0) :
    Calls Try.prog 6 #[.slice a0 len0 cap0] w fun e w' => e = .returned (.bool true) ∧ Below w.heap.size w w' := by
  obtain ⟨hr, hm, hlen⟩ := Rd.of_row w0
  clear w0
  generalize z0.take len0 = xs at *
  by_cases hl : 1048576 < len0
  · unfold maxLen at hm
    go_enter Try.func6, Try.ntmps6
    go_wp2_with fail
    go_ret
    exact ⟨rfl, Below.refl _ _⟩
  · have hx : xs.length ≤ 1048576 := by omega
    clear hlen hm
    have hr0 := Lib.hid hr
    clear hr
    go_enter Try.func6, Try.ntmps6
    go_wp2_with fail
    refine (toIntS_any _ xs _ hr0.out hx).mono ?_
    rintro e w1 ⟨u1, rfl, o1, hb1⟩
    have hr1 := Lib.hid (hr0.out.below hb1)
    go_wp2_with fail
    refine (spec_BestGuesses _ xs _ o1.rd).mono ?_
    rintro e w2 ⟨s2, rfl, hs2, hb2⟩
    have hr2 := Lib.hid (hr1.out.below hb2)
    have H2 := Lib.hid hs2
    clear hs2
    go_wp2_with fail
    refine (toIntS_any _ xs _ hr2.out hx).mono ?_
    rintro e w3 ⟨u3, rfl, o3, hb3⟩
    have hr3 := Lib.hid (hr2.out.below hb3)
    go_wp2_with fail
    refine (impl_BestGuesses _ xs _ o3.rd).mono ?_
    rintro e w4 ⟨s4, rfl, hs4, hb4⟩
    have hr4 := Lib.hid (hr3.out.below hb4)
    have o4 := o3.below hb4
    have heq : (s4.toList == s2.toList) = true := by rw [ByteArray.toList_eq, ByteArray.toList_eq, hs4, H2.out]; simp
    have heq2 : (s4.toList != s2.toList) = false := by rw [ByteArray.toList_eq, ByteArray.toList_eq, hs4, H2.out]; simp
    clear hs4
    go_wp2_with fail
    refine (toIntS_any _ xs _ hr4.out hx).mono ?_
    rintro e w5 ⟨u5, rfl, o5, hb5⟩
    have o5' := o4.below hb5
    go_wp2_with fail
    refine (eqIntS_yes _ _ xs _ o5'.rd o5.rd).mono ?_
    rintro e w6 ⟨rfl, hb6⟩
    go_wp2_with fail
    go_ret
    have s1 := hb1.size
    have s2' := hb2.size
    have s3 := hb3.size
    have s4' := hb4.size
    have s5 := hb5.size
    exact ⟨rfl, hb1.trans ((hb2.mono s1).trans ((hb3.mono (by omega)).trans ((hb4.mono (by omega)).trans ((hb5.mono (by omega)).trans (hb6.mono (by omega))))))⟩
end Go.Proofs.Ytpdijlpdkdhgpaa
