/- spec.LeastAverage; the law FnExactLeastAverage. -/
import Derived.Test.YtbmppbhomlnnnaaProg
import Derived.Test.YtbmppbhomlnnnaaAvg1
namespace Go.Proofs.Ytbmppbhomlnnnaa
open Go.RowKit

set_option maxHeartbeats 8000000 in
theorem spec_LeastAverage (v : Value) (xs : List Int) (w : World) (h : Rd w v xs) :
    Calls Try.prog 5 #[v] w fun e w' => e = .returned (.int .i64 (LAv xs)) ∧ Below w.heap.size w w' := by
  have k0 := Lib.hid (spec_OftenOk v xs w h)
  cases hok : OOk xs with
  | false =>
    rw [LAv_bad hok]
    rw [hok] at k0
    clear h hok
    go_enter Try.func5, Try.ntmps5
    go_wp2_with fail
    refine k0.out.mono ?_
    rintro e w1 ⟨rfl, rfl⟩
    go_wp2_with fail
    go_ret
    exact ⟨rfl, Below.refl _ _⟩
  | true =>
    rw [LAv_ok hok]
    rw [hok] at k0
    obtain ⟨_, hS, hl1, hl2⟩ := OOk_sum hok
    have HST := Lib.hid (Mrg.start hok)
    generalize sumL xs = S at *
    generalize huff xs.length xs = H at *
    have hx0 : 0 < xs.length := by omega
    have hne : xs ≠ [] := by intro e; rw [e] at hx0; simp at hx0
    obtain ⟨a, ca, rfl, hmx, ha⟩ := h
    obtain ⟨ga, offa, rfl, hca⟩ := ha hne
    obtain ⟨i0, hi, hz0, hz1, hz2⟩ := info_parts YtbmppbhomlnnnaainfoInt
    obtain ⟨B, hB⟩ : ∃ B, B = w.heap.size := ⟨_, rfl⟩
    have hnews : ∀ j u, (xs.map (Value.int .i64))[j]? = some u → (w.alloc (.cells #[] 3)).cell? ((⟨ga, offa, none⟩ : Addr).add j) = some u :=
      rd_cells hca (World.block_lt_of_cell? w _ (hca 0 hx0)) _
    unfold maxLen at hmx
    have HB0 := Lib.hid hB
    clear ha hca hok hne
    go_enter Try.func5, Try.ntmps5
    go_wp2_with fail
    refine k0.out.mono ?_
    rintro e w1 ⟨rfl, rfl⟩
    go_wp2_with (first
      | (at_builtin; (refine wpList_append_own _ rfl _ _ 22 rfl B 3 i0 (.int .i64 0) 1 8 Try.underlying22 hi hz0 hz1 hz2 rfl (by decide) _ _ _ rfl (World.ownsRow_made w #[] 0 (Nat.le_of_eq hB) (by simp [maxLen]) (by simp)) ⟨ga, offa, none⟩ xs.length ca (xs.map (Value.int .i64)) rfl (by simp) hnews (ints_oneCell _ _) ?c1 ?c2 ?c3 ?_)))
    case c1 => simp only [maxLen]; omega
    case c2 => omega
    case c3 => rw [hB]; simp
    intro v' w2 hown hg _
    have hown2 : w2.ownsRow w.heap.size 3 1 v' xs.length (xs.map (Value.int .i64)) := by simpa using hown
    have hb2 : Below w.heap.size w w2 := ((Below.refl _ _).alloc (Nat.le_refl _) _).grown hg (by simp) (fun k hk => by simp [Value.ownBlock] at hk; omega)
    obtain ⟨g0, cap0, rfl, ho1, hcm0⟩ := OwL.of_row hown2 hx0
    clear hown hg hown2 hnews hB k0
    go_wp2_with fail
    go_loopw [3, 4] (fun vl vs wr => ∃ (g off cap : Nat) (cur : List Int) (sum : Int), vl = .slice (some ⟨g, off, none⟩) cur.length cap ∧ vs = .int .i64 sum ∧ OwL wr w.heap.size g off cap cur ∧ cap ≤ maxLen ∧ Below w.heap.size w wr ∧ Hid (Mrg S H xs.length cur sum)) (fun vl _ _ => sliceLen vl)
    case atStart => exact ⟨g0, 0, cap0, xs, 0, by simp, rfl, ho1, hcm0, hb2, HST.out⟩
    case round =>
      clear ho1 hb2 HST
      obtain ⟨g, off, cap, cur, sum, rfl, rfl, ho, hcm, hb, hm⟩ := hrel
      obtain ⟨_, _, _, hc1, hc2, hlo, hhi⟩ := hm.out
      by_cases hgt : 1 < cur.length
      · obtain ⟨m, hme⟩ : ∃ m, cur.length = m + 2 := ⟨cur.length - 2, by omega⟩
        have HLEN := Lib.hid (fun (L : List Int) (hp : L.Perm cur) => (hp.length_eq.trans hme : L.length = m + 2))
        have hbg := ho.base_le
        have hc2' : m + 2 ≤ 9 := by omega
        rw [hme] at hhi ⊢
        have hhi' : sum ≤ 8100 := by omega
        have HME := Lib.hid hme
        obtain ⟨wo, hwo⟩ : ∃ wo : World, wo = wr := ⟨_, rfl⟩
        subst hwo
        clear hgt hhi hc1 hc2 hme
        go_wp2_with fail
        go_loopw [5] (fun v wr => ∃ (i : Nat) (L : List Int), v = .int .i64 i ∧ 1 ≤ i ∧ i ≤ m + 2 ∧ Hid (Srt cur L i) ∧ OwL wr w.heap.size g off cap L ∧ Below w.heap.size w wr) (fun v _ => m + 2 - (intOf v).toNat)
        case atStart => exact ⟨1, cur, rfl, by omega, by omega, ⟨List.Perm.refl _, by match cur with | [] => simp | x :: _ => simp⟩, ho, hb⟩
        case round =>
          clear ho hb
          obtain ⟨i, L, rfl, hi1, hi2, hs, ho, hb⟩ := hrel
          have hL := HLEN.out L hs.out.perm
          by_cases hlt : i < m + 2
          · have hsp := hs.out.split (by omega)
            obtain ⟨wo2, hwo2⟩ : ∃ wo2 : World, wo2 = wr := ⟨_, rfl⟩
            subst hwo2
            have HSP := Lib.hid hsp
            clear hsp hs hL
            go_wp2_with fail
            go_loopw [6, 7] (fun v _ wr => ∃ (L A C R : List Int) (x : Int), v = .int .i64 (A.length : Nat) ∧ A.length + C.length = i ∧ Hid (Spl cur L A x C R) ∧ OwL wr w.heap.size g off cap L ∧ Below w.heap.size w wr) (fun v _ _ => (intOf v).toNat)
            case atStart => exact ⟨L, L.take i, [], L.drop (i + 1), L.getD i 0, by simp [List.length_take]; have := HLEN.out L HSP.out.perm; omega, by simp [List.length_take]; have := HLEN.out L HSP.out.perm; omega, HSP.out, ho, hb⟩
            case round =>
              clear HSP ho hb
              obtain ⟨L, A, C, R, x, rfl, hAC, hs, ho, hb⟩ := hrel
              have hL := HLEN.out L hs.out.perm
              rcases List.eq_nil_or_concat A with rfl | ⟨A', y, hA⟩
              · have hdone := hs.out.srt hs.out.done0
                simp only [List.length_nil, Nat.zero_add] at hAC hdone
                rw [hAC] at hdone
                have HD := Lib.hid hdone
                clear hs hdone hL
                go_wp2_with fail
                go_quiet (fail)
                go_wp2_with fail
                go_roundw
                case rel => exact ⟨i + 1, L, by go_num, by omega, by omega, HD.out, ho.drewN _, below_drewN hb _⟩
                case measure => simp [intOf]; omega
              · rw [List.concat_eq_append] at hA
                subst hA
                obtain ⟨k, hk⟩ : ∃ k, A'.length = k := ⟨_, rfl⟩
                have hjl : (((A' ++ [y]).length : Nat) : Int) = (k : Int) + 1 := by simp [hk]
                rw [hjl]
                have hAC2 : k + 1 + C.length = i := by rw [← hAC, ← hk]; simp
                have heq : L = A' ++ y :: x :: (C ++ R) := by rw [hs.out.eq]; simp
                have hk1 : k + 1 < L.length := by rw [heq, ← hk]; simp
                have hcx := ho.cells (k + 1) hk1
                have hcy := ho.cells k (by omega)
                rw [heq, ← hk, getD_app2, hk] at hcx
                rw [heq, ← hk, getD_app1, hk] at hcy
                have hw : IntKind.i64.wrap ((k : Int) + 1 - 1) = (k : Int) := by rw [show (k : Int) + 1 - 1 = k by omega]; exact IntWalk.i64_in _ (by omega)
                have hi0 : (0 : Int) ≤ (k : Int) + 1 := by omega
                have hi1' : (k : Int) + 1 < (m : Int) + 2 := by omega
                have hi2' : (0 : Int) ≤ (k : Int) := by omega
                have hi3' : (k : Int) < (m : Int) + 2 := by omega
                have HEQ := Lib.hid heq
                have HK := Lib.hid hk
                by_cases hxy : x < y
                · have hs2 := hs.out.swap hxy
                  have HS2 := Lib.hid hs2
                  have HO := Lib.hid ho
                  clear hs hs2 hAC hjl heq hk hL ho
                  go_wp2_with fail
                  go_quiet (fail)
                  generalize hw0 : wr.drewN _ = w0
                  have hO0 : OwL w0 w.heap.size g off cap L := by rw [← hw0]; exact HO.out.drewN _
                  have hB0 : Below w.heap.size w w0 := by rw [← hw0]; exact below_drewN hb _
                  have hcx0 := hO0.cells (k + 1) hk1
                  have hcy0 := hO0.cells k (by omega)
                  rw [HEQ.out, ← HK.out, getD_app2, HK.out] at hcx0
                  rw [HEQ.out, ← HK.out, getD_app1, HK.out] at hcy0
                  have hfx0 := (hO0.room (k + 1) (by have := hO0.le; omega)).2
                  have hfy0 := (hO0.room k (by have := hO0.le; omega)).2
                  have HO0 := Lib.hid hO0
                  have hne : (⟨g, off + (k + 1), none⟩ : Addr) ≠ ⟨g, off + k, none⟩ := by intro h; injection h with _ h _; omega
                  clear hw0 hO0 hcx hcy hb HO hw
                  go_wp2_with fail
                  go_roundw
                  case rel =>
                    refine ⟨A' ++ x :: ((y :: C) ++ R), A', y :: C, R, x, by rw [HK.out], by have := HK.out; simp; omega, HS2.out, ?_, ?_⟩
                    · have := (HO0.out.set (k + 1) y hk1).set k x (by rw [List.length_set]; omega)
                      rw [HEQ.out, ← HK.out, swap_set, HK.out] at this
                      exact this
                    · exact (hB0.setCell (p := ⟨g, off + (k + 1), none⟩) hbg _).setCell (p := ⟨g, off + k, none⟩) hbg _
                  case measure => simp [intOf]
                · have hyx : y ≤ x := by omega
                  have hdone := hs.out.srt (hs.out.done1 hyx)
                  rw [show (A' ++ [y]).length + C.length + 1 = i + 1 by omega] at hdone
                  have HD := Lib.hid hdone
                  clear hs hAC hjl heq hk hL hdone hxy
                  go_wp2_with fail
                  go_quiet (fail)
                  go_wp2_with fail
                  go_roundw
                  case rel => exact ⟨i + 1, L, by go_num, by omega, by omega, HD.out, ho.drewN _, below_drewN hb _⟩
                  case measure => simp [intOf]; omega
          · have hfin := hs.out.isort (by omega)
            have hsl : L.length = m + 2 := hL
            have HFIN := Lib.hid hfin
            clear hs hL hfin
            match L, hsl with
            | a :: b :: r, hsl =>
              simp only [List.length_cons] at hsl
              have hrl : r.length = m := by omega
              obtain ⟨hnx, _, ha0, hb0, hab⟩ := hm.out.next hS HFIN.out.symm ((a + b) :: r) (by simpa using (List.perm_append_comm (l₁ := [a + b]) (l₂ := r)))
              have HN := Lib.hid hnx
              have hca := ho.cells 0 (by simp)
              have hcb := ho.cells 1 (by simp)
              rw [show (a :: b :: r).getD 0 0 = a from rfl, Nat.add_zero] at hca
              rw [show (a :: b :: r).getD 1 0 = b from rfl] at hcb
              have hcap2 : m + 2 ≤ cap := by have := ho.le; simp at this; omega
              have hw1 : IntKind.i64.wrap (a + b) = a + b := IntWalk.i64_in _ (by omega)
              have ho4 := ho.cut 2
              rw [show (a :: b :: r).drop 2 = r from rfl] at ho4
              have HO4 := Lib.hid ho4
              have HRL := Lib.hid hrl
              have HB := Lib.hid hb
              clear ho ho4 hb hsl hrl hnx
              go_wp2_with fail
              go_quiet (fail)
              generalize hw0 : wr.drewN _ = w4
              have HO5 := Lib.hid (show OwL w4 w.heap.size g (off + 2) (cap - 2) r by rw [← hw0]; exact HO4.out.drewN _)
              have HB4 := Lib.hid (show Below w.heap.size w w4 by rw [← hw0]; exact below_drewN HB.out _)
              have hsz4 : w.heap.size ≤ w4.heap.size := HB4.out.size
              have hlit := World.ownsRow_lit (base := w.heap.size) (e := 3) (size := 1) w4 #[.int .i64 (a + b)] 1 hsz4 (by simp [maxLen]) (by simp)
              have hnews4 : ∀ j u, (r.map (Value.int .i64))[j]? = some u → (w4.alloc (.cells #[.int .i64 (a + b)] 3)).cell? ((⟨g, off + 2, none⟩ : Addr).add j) = some u :=
                rd_cells HO5.out.cells HO5.out.lt _
              have hm1 : m ≤ 9 := by omega
              clear hw0 hca hcb hw1 HO4 HB
              by_cases hc2e : cap = 2
              · subst hc2e
                have hm0 : m = 0 := by omega
                subst hm0
                have hr0 : r = [] := List.eq_nil_of_length_eq_zero HRL.out
                subst hr0
                go_wp2_with (first | (at_builtin; go_loud (refine wpList_append_own _ rfl _ _ 22 rfl w.heap.size 3 i0 (.int .i64 0) 1 8 Try.underlying22 hi hz0 hz1 hz2 rfl (by decide) (.slice (some ⟨w4.heap.size, 0, none⟩) 1 1) 1 _ rfl hlit ⟨g, off, none⟩ 0 0 [] rfl rfl (by simp) (by simp) (by simp [maxLen]) (by omega) (by simp; omega) ?_); intro v5 w5 hown5 hg5 _))
                have hown6 : w5.ownsRow w.heap.size 3 1 v5 [a + b].length ([a + b].map (Value.int .i64)) := by simpa using hown5
                obtain ⟨g6, cap6, rfl, ho6, hcm6⟩ := OwL.of_row hown6 (by simp)
                have hb5 : Below w.heap.size w w5 := (HB4.out.alloc hsz4 _).grown hg5 (by simp; omega) (fun k hk => by have e : w4.heap.size = k := (by simpa [Value.ownBlock] using hk); rw [← e]; exact hsz4)
                clear hown5 hown6 hg5
                go_roundw
                case rel => exact ⟨g6, 0, cap6, [a + b], sum + (a + b), rfl, by go_num, ho6, hcm6, hb5, HN.out⟩
                case measure => simp [sliceLen]
              · go_wp2_with (first | (at_builtin; go_loud (refine wpList_append_own _ rfl _ _ 22 rfl w.heap.size 3 i0 (.int .i64 0) 1 8 Try.underlying22 hi hz0 hz1 hz2 rfl (by decide) (.slice (some ⟨w4.heap.size, 0, none⟩) 1 1) 1 _ rfl hlit ⟨g, off + 2, none⟩ m (cap - 2) (r.map (Value.int .i64)) rfl (by simp [HRL.out]) hnews4 (ints_oneCell _ _) (by simp only [maxLen]; omega) (by omega) (by simp; omega) ?_); intro v5 w5 hown5 hg5 _))
                have hown6 : w5.ownsRow w.heap.size 3 1 v5 ((a + b) :: r).length (((a + b) :: r).map (Value.int .i64)) := by
                  have : ((a + b) :: r).length = 1 + m := by simp [HRL.out]; omega
                  rw [this]
                  simpa using hown5
                obtain ⟨g6, cap6, rfl, ho6, hcm6⟩ := OwL.of_row hown6 (by simp)
                have hb5 : Below w.heap.size w w5 := (HB4.out.alloc hsz4 _).grown hg5 (by simp; omega) (fun k hk => by have e : w4.heap.size = k := (by simpa [Value.ownBlock] using hk); rw [← e]; exact hsz4)
                clear hown5 hown6 hg5
                go_roundw
                case rel => exact ⟨g6, 0, cap6, (a + b) :: r, sum + (a + b), rfl, by go_num, ho6, hcm6, hb5, HN.out⟩
                case measure => have := HRL.out; simp [sliceLen]; omega
      · have hdone := hm.out.done (by omega)
        have HD := Lib.hid hdone
        clear hm hdone
        go_wp2_with fail
        go_ret
        exact ⟨ret_int HD.out, hb⟩

set_option maxHeartbeats 400000 in
theorem law_FnExactLeastAverage (a0 : Option Addr) (len0 cap0 : Nat) (z0 : List Int) (w : World) (w0 : IsRow .i64 w a0 len0 cap0 z0) :
    Calls Try.prog 3 #[.slice a0 len0 cap0] w fun e w' => e = .returned (.bool true) ∧ Below w.heap.size w w' := by
  obtain ⟨hr, hm, hlen⟩ := Rd.of_row w0
  clear w0
  generalize z0.take len0 = xs at *
  by_cases hl : 1048576 < len0
  · unfold maxLen at hm
    go_enter Try.func3, Try.ntmps3
    go_wp2_with fail
    go_ret
    exact ⟨rfl, Below.refl _ _⟩
  · have hx : xs.length ≤ 1048576 := by omega
    clear hlen hm
    have hr0 := Lib.hid hr
    clear hr
    go_enter Try.func3, Try.ntmps3
    go_wp2_with fail
    refine (toIntS_any _ xs _ hr0.out hx).mono ?_
    rintro e w1 ⟨u1, rfl, o1, hb1⟩
    have hr1 := Lib.hid (hr0.out.below hb1)
    go_wp2_with fail
    refine (spec_LeastAverage _ xs _ o1.rd).mono ?_
    rintro e w2 ⟨rfl, hb2⟩
    have hr2 := Lib.hid (hr1.out.below hb2)
    go_wp2_with fail
    refine (toIntS_any _ xs _ hr2.out hx).mono ?_
    rintro e w3 ⟨u3, rfl, o3, hb3⟩
    have hr3 := Lib.hid (hr2.out.below hb3)
    go_wp2_with fail
    refine (impl_LeastAverage _ xs _ o3.rd).mono ?_
    rintro e w4 ⟨rfl, hb4⟩
    have hr4 := Lib.hid (hr3.out.below hb4)
    have o4 := o3.below hb4
    go_wp2_with fail
    refine (toIntS_any _ xs _ hr4.out hx).mono ?_
    rintro e w5 ⟨u5, rfl, o5, hb5⟩
    have o5' := o4.below hb5
    go_wp2_with fail
    refine (eqIntS_yes _ _ xs _ o5'.rd o5.rd).mono ?_
    rintro e w6 ⟨rfl, hb6⟩
    go_wp2_with fail
    go_ret
    have s1 := hb1.size
    have s2 := hb2.size
    have s3 := hb3.size
    have s4 := hb4.size
    have s5 := hb5.size
    exact ⟨rfl, hb1.trans ((hb2.mono s1).trans ((hb3.mono (by omega)).trans ((hb4.mono (by omega)).trans ((hb5.mono (by omega)).trans (hb6.mono (by omega))))))⟩
end Go.Proofs.Ytbmppbhomlnnnaa
