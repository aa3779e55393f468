/- The law FnLeastAverage. -/
import Derived.Test.YtbmppbhomlnnnaaProg
import Derived.Test.YtbmppbhomlnnnaaAvg2
import Derived.Test.YtbmppbhomlnnnaaSum
import Derived.Test.YtbmppbhomlnnnaaOften2
import Derived.Test.YtbmppbhomlnnnaaAlive
namespace Go.Proofs.Ytbmppbhomlnnnaa
open Go.RowKit

set_option maxHeartbeats 1000000 in
theorem draw_LeastAverage (a : Option Addr) (len cap : Nat) (w : World) (h : Code8 w a len cap) :
    Calls Try.prog 9 #[.slice a len cap] w fun e w' => ∃ (v : Value) (L : List Int), e = .returned v ∧ w'.ownsRow w.heap.size 3 1 v L.length (L.map (Value.int .i64)) ∧ L.length ≤ 10 ∧ Below w.heap.size w w' := by
  go_enter Try.func9, Try.ntmps9
  go_wp2_with fail
  refine (open_any a len cap w h).mono ?_
  rintro e w1 ⟨rfl, hr, hb⟩
  go_wp2_with fail
  refine (often_any w.heap.size 0 9 (by omega) (by omega) (by omega) w1 hr.toU).mono ?_
  rintro e w2 ⟨v, L, rfl, hown, hL, _, hg⟩
  go_wp2_with fail
  go_ret
  exact ⟨_, L, rfl, hown.mono hb.size, hL, hb.trans (below_of_grownBy hg hb.size (Nat.le_refl _))⟩

theorem rev_snoc (L : List Int) (j : Nat) (h : j < L.length) : L.reverse.take (j + 1) = L.reverse.take j ++ [L.getD (L.length - 1 - j) 0] := by
  rw [take_snoc _ _ (by rw [List.length_reverse]; exact h)]
  congr 1
  rw [List.getD_eq_getElem?_getD, List.getD_eq_getElem?_getD, List.getElem?_reverse h]

set_option maxHeartbeats 2000000 in
theorem law_FnLeastAverage (a0 : Option Addr) (len0 cap0 : Nat) (z0 : List Int) (w : World) (w0 : IsRow .u8 w a0 len0 cap0 z0) :
    Calls Try.prog 4 #[.slice a0 len0 cap0] w fun e w' => e = .returned (.bool true) ∧ Below w.heap.size w w' := by
  have hc := Code8.of_row w0
  clear w0
  by_cases hl : 1048576 < len0
  · go_enter Try.func4, Try.ntmps4
    go_wp2_with fail
    go_ret
    exact ⟨rfl, Below.refl _ _⟩
  · obtain ⟨i0, hi, hz0, hz1, hz2⟩ := info_parts YtbmppbhomlnnnaainfoInt
    go_enter Try.func4, Try.ntmps4
    go_wp2_with fail
    refine (draw_LeastAverage _ _ _ _ hc).mono ?_
    rintro e w1 ⟨v, L, rfl, hown, hlen, hb1⟩
    have R1 := Lib.hid (Ow.of_row hown (by simp only [maxLen]; omega)).rd
    clear hc hown
    go_wp2_with fail
    refine (impl_LeastAverage _ L _ R1.out).mono ?_
    rintro e w2 ⟨rfl, hb2⟩
    have R2 := Lib.hid (R1.out.below hb2)
    go_wp2_with fail
    refine (spec_LeastAverage _ L _ R2.out).mono ?_
    rintro e w3 ⟨rfl, hb3⟩
    have R3 := Lib.hid (R2.out.below hb3)
    have hb := hb1.trans ((hb2.mono hb1.size).trans (hb3.mono (Nat.le_trans hb1.size hb2.size)))
    clear R1 R2 hb1 hb2 hb3
    cases hok : OOk L with
    | false =>
      rw [LAv_bad hok]
      clear hok hi hz0 hz1 hz2
      go_wp2_with (first | (go_at_call 10; refine (alive_any _).mono ?_; rintro e w5 ⟨rfl, rfl⟩))
      go_ret
      exact ⟨rfl, hb⟩
    | true =>
      have ho := OOk_iff.1 hok
      have hL1 : 1 ≤ L.length := ho.1.1
      have hL9 : L.length ≤ 9 := ho.1.2
      obtain ⟨⟨t, ht⟩, hhl⟩ := HB_is hL1 hL9
      have f1 := Lib.hid (LAv_reverse hok)
      have f2 := Lib.hid (LAv_least hok ht)
      have f3 := Lib.hid (fun h => LAv_zero hok h)
      have f4 := LAv_lo hok
      have f5 := (OOk_sum hok).2.1
      have f6 : 0 ≤ sumL L := sumL_nn (OOk_sum hok).1
      have fb := Lib.hid (show ∀ x ∈ L, 0 ≤ x ∧ x ≤ 1000 from fun x hx => by have := ho.2 x hx; omega)
      have FH := Lib.hid hhl
      obtain ⟨a, ca, e0, hm, hcl⟩ := R3.out
      obtain ⟨g, off, e1, hcell⟩ := hcl (by intro e; rw [e] at hL1; simp at hL1)
      subst e1
      subst e0
      have HC := Lib.hid hcell
      generalize LAv L = n at *
      have HB := Lib.hid hb
      clear ho hok ht hhl hcl hcell hb hm
      have hsz3 := HB.out.size
      have hown0 := World.ownsRow_made w3 (e := 3) (base := w3.heap.size) (size := 1) #[] 0 (Nat.le_refl _) (by simp [maxLen]) (by simp)
      have HA := Lib.hid (show Below w3.heap.size w3 (w3.alloc (.cells #[] 3)) from (Below.refl _ _).alloc (Nat.le_refl _) _)
      have HO := Lib.hid hown0
      clear hown0
      go_wp2_with fail
      go_loopw [5, 6] (fun vo vi wr => ∃ j : Nat, j ≤ L.length ∧ vi = .int .i64 ((L.length : Int) - 1 - j) ∧ wr.ownsRow w3.heap.size 3 1 vo (L.reverse.take j).length ((L.reverse.take j).map (Value.int .i64)) ∧ Below w3.heap.size w3 wr) (fun _ vi _ => (intOf vi + 1).toNat)
      case atStart => exact ⟨0, by omega, by simp, HO.out, HA.out⟩
      case round =>
        obtain ⟨j, hj, rfl, hown, hbr⟩ := hrel
        by_cases hlt : j < L.length
        · obtain ⟨q, hq⟩ : ∃ q : Nat, (L.length : Int) - 1 - j = q := ⟨L.length - 1 - j, by omega⟩
          have hql : q < L.length := by omega
          have hcq0 := HC.out q hql
          have hcq := (hbr.cell (p := ⟨g, off + q, none⟩) (World.block_lt_of_cell? w3 _ hcq0)).trans hcq0
          have hrv := rev_snoc L j hlt
          rw [show L.length - 1 - j = q by omega] at hrv
          have HR := Lib.hid hrv
          have hlm : (L.reverse.take j).length < 1000000000 := by rw [List.length_take, List.length_reverse]; omega
          rw [hq]
          generalize L.getD q 0 = x at *
          have hi0 : (0 : Int) ≤ (q : Int) := by omega
          have hi1 : (q : Int) < (L.length : Int) := by omega
          obtain ⟨M, hM⟩ : ∃ M, M = L.reverse.take j := ⟨_, rfl⟩
          rw [← hM] at hown hlm HR
          have hszr := hbr.size
          clear hcq0 hrv hM
          go_wp2_with (first | (at_builtin; (refine wpList_append_int _ rfl _ _ rfl w3.heap.size _ M x hown rfl rfl hlm hszr ?_); intro v5 w5 hown5 hb5))
          go_roundw
          case rel =>
            refine ⟨j + 1, by omega, ?_, by rw [HR.out]; exact hown5, hbr.trans hb5⟩
            congr 1
            omega
          case measure => simp [intOf]
        · have hjl : j = L.length := by omega
          subst hjl
          rw [show (L.length : Int) - 1 - (L.length : Int) = -1 by omega]
          rw [show L.reverse.take L.length = L.reverse by rw [show L.length = L.reverse.length by rw [List.length_reverse], List.take_length]] at hown
          have O4 := Lib.hid (Ow.of_row hown (by rw [List.length_reverse]; simp only [maxLen]; omega)).rd
          have hb4 := HB.out.trans (hbr.mono hsz3)
          have R4 := Lib.hid (R3.out.below hbr)
          have hcell4 : ∀ j, j < L.length → wr.cell? ⟨g, off + j, none⟩ = some (.int .i64 (L.getD j 0)) := fun j hj => (hbr.cell (p := ⟨g, off + j, none⟩) (World.block_lt_of_cell? w3 _ (HC.out j hj))).trans (HC.out j hj)
          have hgl : g < wr.heap.size := World.block_lt_of_cell? wr _ (hcell4 0 (by omega))
          have hlit := World.ownsRow_lit (base := wr.heap.size) (e := 3) (size := 1) wr #[.int .i64 0] 1 (Nat.le_refl _) (by simp [maxLen]) (by simp)
          have hnews4 : ∀ j u, (L.map (Value.int .i64))[j]? = some u → (wr.alloc (.cells #[.int .i64 0] 3)).cell? ((⟨g, off, none⟩ : Addr).add j) = some u :=
            rd_cells hcell4 hgl _
          have HL4 := Lib.hid hb4
          clear hown hbr hb4 hcell4 R3 HC HO HA HB hsz3 hj hlt
          go_wp2_with (first | (at_builtin; go_loud (refine wpList_append_own _ rfl _ _ 22 rfl wr.heap.size 3 i0 (.int .i64 0) 1 8 Try.underlying22 hi hz0 hz1 hz2 rfl (by decide) (.slice (some ⟨wr.heap.size, 0, none⟩) 1 1) 1 _ rfl hlit ⟨g, off, none⟩ L.length ca (L.map (Value.int .i64)) rfl (by simp) hnews4 (ints_oneCell _ _) (by simp only [maxLen]; omega) (by omega) (by simp) ?_); intro v5 w5 hown5 hg5 _))
          have hown6 : w5.ownsRow wr.heap.size 3 1 v5 ((0 : Int) :: L).length (((0 : Int) :: L).map (Value.int .i64)) := by
            have : ((0 : Int) :: L).length = 1 + L.length := by simp; omega
            rw [this]
            simpa using hown5
          have hb5 : Below wr.heap.size wr w5 := ((Below.refl _ wr).alloc (Nat.le_refl _) _).grown hg5 (by simp) (fun k hk => by have e : wr.heap.size = k := (by simpa [Value.ownBlock] using hk); rw [← e]; exact Nat.le_refl _)
          have R5 := Lib.hid (R4.out.below hb5)
          have O5 := Lib.hid (O4.out.below hb5)
          have N5 := Lib.hid (Ow.of_row hown6 (by simp [maxLen]; omega)).rd
          have hbb5 := HL4.out.trans (hb5.mono HL4.out.size)
          clear hown5 hown6 hg5 hlit hnews4 hi hz0 hz1 hz2 R4 O4 HL4 hb5 hgl
          refine (impl_LeastAverage _ _ _ N5.out).mono ?_
          rintro e w6 ⟨rfl, hb6⟩
          have R6 := Lib.hid (R5.out.below hb6)
          have O6 := Lib.hid (O5.out.below hb6)
          have hbb6 := hbb5.trans (hb6.mono hbb5.size)
          clear R5 O5 N5 hbb5 hb6
          go_wp2_with fail
          refine (impl_LeastAverage _ _ _ O6.out).mono ?_
          rintro e w7 ⟨rfl, hb7⟩
          rw [f1.out]
          have R7 := Lib.hid (R6.out.below hb7)
          have hbb7 := hbb6.trans (hb7.mono hbb6.size)
          clear R6 O6 hbb6 hb7 f1
          go_wp2_with fail
          refine (impl_HalvesOf L.length _).mono ?_
          rintro e w7' ⟨u, rfl, hu, rfl⟩
          have hus : u.size ≤ 1048576 := by
            have : u.size = u.data.toList.length := by cases u; rfl
            rw [this, hu]
            have := FH.out
            omega
          have kc := Lib.hid (impl_CostOf _ L u hus _ R7.out)
          rw [hu] at kc
          have hle := f2.out
          generalize CF L (HS L.length) = c at *
          clear hu hus FH f2
          go_wp2_with fail
          refine (kc.out).mono ?_
          rintro e w8 ⟨rfl, hb8⟩
          have R8 := Lib.hid (R7.out.below hb8)
          have hbb8 := hbb7.trans (hb8.mono hbb7.size)
          clear R7 kc hbb7 hb8
          by_cases h9 : L.length = 9
          · have h9i : ((L.length : Int) == 9) = true := by rw [beq_iff_eq]; omega
            clear f3
            go_wp2_with fail
            go_ret
            exact ⟨rfl, hbb8⟩
          · have h9i : ((L.length : Int) == 9) = false := by rw [beq_eq_false_iff_ne]; omega
            obtain ⟨z1, z2⟩ := f3.out (by omega)
            have ks := Lib.hid (sumOf_any _ L _ R8.out (by omega) fb.out)
            generalize LAv (0 :: L) = n2 at *
            generalize sumL L = s at *
            clear f3 h9
            go_wp2_with fail
            refine (ks.out).mono ?_
            rintro e w9 ⟨rfl, rfl⟩
            go_wp2_with fail
            go_ret
            exact ⟨rfl, hbb8⟩
end Go.Proofs.Ytbmppbhomlnnnaa
