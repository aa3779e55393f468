/- AllCodes of the reference model. -/
import Derived.Test.YtkkjgcpkimjfkaaProg
import Derived.Test.YtkkjgcpkimjfkaaRows0
import Derived.Test.YtkkjgcpkimjfkaaRows1
import Derived.Test.YtkkjgcpkimjfkaaCodes1
import Derived.Test.YtkkjgcpkimjfkaaClone
namespace Go.Proofs.Ytkkjgcpkimjfkaa
open Go.RowKit

/-- all codes -/
def AC (p c : Int) : List (List Int) := if CsOk p c = true then ext c.toNat p.toNat [] else []
theorem AC_no {p c : Int} (h : ¬ ((1 ≤ p ∧ p ≤ 3) ∧ (1 ≤ c ∧ c ≤ 5))) : AC p c = [] := by
  unfold AC; rw [if_neg]; intro e; exact h (of_decide_eq_true e)
theorem AC_yes {p c : Nat} (h1 : 1 ≤ p) (h2 : p ≤ 3) (h3 : 1 ≤ c) (h4 : c ≤ 5) : AC p c = ext c p [] := by
  unfold AC; rw [if_pos (show CsOk p c = true from decide_eq_true (by omega))]; rfl

/-- 'append(out, row)' to a slice of rows of the call's own. -/
theorem wpList_append_row (w : World) {ops : Array Oper} {rest : List Oper} {o : Oper} {a : Act} {Q : Exit → Act → World → Prop} (hgd : o.guard = none) (s x : Operand)
    (ho : o.op = Op.call { callee := Callee.builtin Builtin.append, args := #[s, x], argTypes := #[29, 29] })
    (base : Nat) (v u : Value) (us : List Value) (hu : u.oneCell' = true) (hown : w.ownsRow base 22 1 v us.length us) (hs : a.eval s = v) (hx : a.eval x = .slice (some ⟨w.heap.size, 0, none⟩) 1 1)
    (hL : us.length < 1000000000) (hb : base ≤ w.heap.size)
    (h : ∀ v' w', w'.ownsRow base 22 1 v' (us ++ [u]).length (us ++ [u]) → w.grownBy w' v.ownBlock → (v'.ownBlock = v.ownBlock ∨ ∃ b, v'.ownBlock = some b ∧ w.heap.size ≤ b) → wpList Try.prog ops Q rest (a.put o.dst v') w') :
    wpList Try.prog ops Q (o :: rest) a (w.alloc (.cells #[u] 22)) := by
  obtain ⟨i0, hi, hz0, hz1, hz2⟩ := info_parts YtkkjgcpkimjfkaainfoSl
  refine wpList_append_own_at _ hgd s x 29 ho base 22 i0 (.slice none 0 0) 1 24 Try.underlying29 hi hz0 hz1 hz2 rfl (by decide) v us.length _ hs (hown.alloc _) ⟨w.heap.size, 0, none⟩ 1 1 [u] hx rfl ?_ ?_ ?_ ?_ ?_ ?_
  · intro j y hj
    match j, hj with
    | 0, hj => simp at hj; subst hj; simp [Addr.add]
  · intro y hy; simp at hy; subst hy; exact hu
  · simp only [maxLen]; omega
  · omega
  · simp; omega
  · intro v' w' h1 h2 _ h4
    have e1 : (us ++ [u]).length = us.length + 1 := by simp
    refine h v' w' (by rw [e1]; exact h1) ?_ ?_
    · refine ⟨h2.os, h2.tape, h2.output, ?_, fun k hk hne => ?_⟩
      · have := h2.size; simp at this; omega
      · rw [h2.block k (by simp; omega) hne]
        exact ((Below.refl w.heap.size w).alloc (Nat.le_refl _) _).block k hk
    · rcases h4 with e | e
      · exact .inl e
      · exact .inr ⟨_, e, by simp⟩

set_option maxRecDepth 100000 in
set_option maxHeartbeats 4000000 in
theorem spec_AllCodes_own (p c : Int) (w : World) :
    Calls Try.prog 19 #[.int .i64 p, .int .i64 c] w fun e w' => (∃ v us, e = .returned v ∧ OwR w' w.heap.size v us (AC p c)) ∧ Below w.heap.size w w' := by
  by_cases h1 : 1 ≤ p ∧ p ≤ 3
  · by_cases h2 : 1 ≤ c ∧ c ≤ 5
    · obtain ⟨p, rfl⟩ := Int.eq_ofNat_of_zero_le (show 0 ≤ p by omega)
      obtain ⟨c, rfl⟩ := Int.eq_ofNat_of_zero_le (show 0 ≤ c by omega)
      obtain ⟨h1, h1'⟩ := h1
      obtain ⟨h2, h2'⟩ := h2
      rw [AC_yes (by omega) (by omega) (by omega) (by omega)]
      obtain ⟨i0, hi, hz0, hz1, hz2⟩ := info_parts YtkkjgcpkimjfkaainfoInt
      obtain ⟨wA, hwA⟩ : ∃ wA, wA = (w.alloc (.cells #[] 22)).alloc (.cells #[] 3) := ⟨_, rfl⟩
      have hbA : Below w.heap.size w wA := by rw [hwA]; exact ((Below.refl _ _).alloc (Nat.le_refl _) _).alloc (by simp) _
      have hoA : OwR wA w.heap.size (.slice (some ⟨w.heap.size, 0, none⟩) 0 0) [] [] := by
        rw [hwA]; exact (OwR.made w w.heap.size (Nat.le_refl _)).below ((Below.refl _ _).alloc (Nat.le_refl _) _)
      have hsA : wA.heap.size = w.heap.size + 1 + 1 := by rw [hwA]; simp
      have HSA := Lib.hid hsA
      have HOA := Lib.hid hoA
      have HBA := Lib.hid hbA
      clear hbA hoA hsA
      go_enter Try.func19, Try.ntmps19
      go_wp2_with (first
        | (go_at_call 41; refine (l1In_yes _ _ _ _ (by omega) (by omega)).mono ?_; rintro e w' ⟨rfl, rfl⟩)
        | (at_builtin; rw [← hwA]; (refine wpList_append_row wA rfl _ _ rfl w.heap.size _ (.slice (some ⟨w.heap.size + 1, 0, none⟩) 0 0) [] rfl HOA.out.own rfl (by rw [HSA.out]; rfl) (by simp) (by rw [HSA.out]; omega) ?_); intro v1 w1 hown1 hg1 hv1))
      have ho1 := HOA.out.push (u := .slice (some ⟨w.heap.size + 1, 0, none⟩) 0 0) (r := []) (Below.refl _ _) (Ow.nil _ _ _ _) (fun b hb => by simp [blockOf] at hb) (by simp [maxLen]) hg1 hown1 hv1
      have hb1 : Below w.heap.size w w1 := HBA.out.grown hg1 (by rw [HSA.out]; omega) (fun k hk => by simp [Value.ownBlock] at hk; omega)
      have HO1 := Lib.hid ho1
      have HB1 := Lib.hid hb1
      clear ho1 hb1 hown1 hg1 hv1 hwA
      obtain ⟨B, hB⟩ : ∃ B, B = w.heap.size := ⟨_, rfl⟩
      rw [← hB] at HO1 HB1 ⊢
      have HB := Lib.hid hB
      go_loopw [5, 6] (fun v vk wr => ∃ (k : Nat) (us : List Value), k ≤ p ∧ vk = .int .i64 k ∧ OwR wr B v us (ext c k []) ∧ (∀ j, j < (ext c k []).length → ∃ ad cap, us.getD j nilS = .slice (some ad) k cap) ∧ Below B w wr) (fun _ vk _ => p - (intOf vk).toNat)
      case atStart => 
        refine ⟨0, _, by omega, rfl, HO1.out, fun j hj => ?_, HB1.out⟩
        obtain rfl : j = 0 := by simp [ext] at hj; omega
        exact ⟨_, _, rfl⟩
      case round =>
        clear HO1 HB1 HOA HBA HSA hB
        obtain ⟨k, us, hk, rfl, hR, hnn, hbel⟩ := hrel
        obtain ⟨wq, hwq⟩ : ∃ wq, wq = wr := ⟨_, rfl⟩
        subst hwq
        by_cases hlt : k < p
        · have hlen : (ext c k []).length ≤ 125 := by
            rw [ext_count]
            calc c ^ k ≤ 5 ^ k := Nat.pow_le_pow_left (by omega) k
              _ ≤ 5 ^ 3 := Nat.pow_le_pow_right (by omega) (by omega)
          have hxl : ∀ i, i < (ext c k []).length → ((ext c k []).getD i []).length = k := fun i hi => by
            have := ext_len c k [] ((ext c k []).getD i []) (by rw [List.getD_eq_getElem?_getD, List.getElem?_eq_getElem hi]; exact List.getElem_mem hi)
            simpa using this
          have HN : Hid (ext c (k + 1) [] = grow c (ext c k [])) := ext_grow c k []
          generalize ext c k [] = rows at *
          have HR := Lib.hid hR
          have HNN := Lib.hid hnn
          have HBL := Lib.hid hbel
          have HXL := Lib.hid hxl
          obtain ⟨ao, ca, rfl, _, _⟩ := hR.rd
          generalize hRl : rows.length = R at *
          have HRL := Lib.hid hRl
          clear hR hnn hbel hxl hRl
          have hs0 : B ≤ wq.heap.size := by rw [HB.out]; exact HBL.out.size
          have HM := Lib.hid (OwR.made wq wq.heap.size (Nat.le_refl _))
          go_wp2_with fail
          go_loopw [7, 8] (fun vn vi w2 => ∃ (i : Nat) (us' : List Value), i ≤ R ∧ vi = .int .i64 i ∧ OwR w2 wq.heap.size vn us' (grow c (rows.take i)) ∧ (∀ j, j < (grow c (rows.take i)).length → ∃ ad cap, us'.getD j nilS = .slice (some ad) (k + 1) cap) ∧ Below wq.heap.size wq w2) (fun _ vi _ => R - (intOf vi).toNat)
          case atStart => exact ⟨0, [], by omega, rfl, HM.out, fun j hj => by simp [grow] at hj, (Below.refl _ _).alloc (Nat.le_refl _) _⟩
          case round =>
            clear HM
            obtain ⟨i, us', hi1, rfl, hO, hN2, hb2⟩ := hrel
            have HO := Lib.hid hO
            have HN2 := Lib.hid hN2
            have HB2 := Lib.hid hb2
            clear hO hN2 hb2
            by_cases hlt2 : i < R
            · have hii : (i : Int) < (R : Int) := by omega
              go_wp2_with fail
              go_loopw [7, 9] (fun vn vm w2 => ∃ (m : Nat) (us' : List Value), m ≤ c ∧ vm = .int .i64 m ∧ OwR w2 wq.heap.size vn us' (growTo c rows i m) ∧ (∀ j, j < (growTo c rows i m).length → ∃ ad cap, us'.getD j nilS = .slice (some ad) (k + 1) cap) ∧ Below wq.heap.size wq w2) (fun _ vm _ => c - (intOf vm).toNat)
              case atStart => exact ⟨0, us', by omega, rfl, by rw [growTo_zero]; exact HO.out, by rw [growTo_zero]; exact HN2.out, HB2.out⟩
              case round =>
                clear HO HN2 HB2
                obtain ⟨m, us3, hm1, rfl, hO3, hN3, hb3⟩ := hrel
                have hs3 : wq.heap.size ≤ wr.heap.size := hb3.size
                have hL3 : (growTo c rows i m).length ≤ 1000 := by
                  rw [growTo_len c rows i m (by rw [HRL.out]; omega)]
                  have : i * c ≤ 125 * 5 := Nat.mul_le_mul (by omega) (by omega)
                  omega
                have HO := Lib.hid hO3
                have HNo := Lib.hid hN3
                have HBo := Lib.hid hb3
                clear hO3 hN3 hb3
                by_cases hlt3 : m < c
                · have hmi : (m : Int) < (c : Int) := by omega
                  have hul : us.length = R := HR.out.len.trans HRL.out
                  have hown := HR.out.own
                  rw [hul] at hown
                  obtain ⟨g, cap, ev, hbg, hgq⟩ := hown.form (by omega)
                  have hgl : g < wr.heap.size := Nat.lt_of_lt_of_le hgq hs3
                  obtain ⟨rfl, rfl⟩ : ao = some ⟨g, 0, none⟩ ∧ ca = cap := by injection ev with e1 _ e3; exact ⟨e1, e3⟩
                  have hci0 := hown.cellAt i (by omega)
                  rw [vals_getD us i (by omega)] at hci0
                  obtain ⟨ad, capi, hui⟩ := HNN.out i hlt2
                  rw [hui] at hci0
                  have hci := (HBo.out.cell (p := ⟨g, i, none⟩) (World.block_lt_of_cell? wq _ hci0)).trans hci0
                  have hrow := HR.out.row i (by rw [HRL.out]; exact hlt2)
                  rw [hui] at hrow
                  have hxl := HXL.out i hlt2
                  have hnews : ∀ j u, ((rows.getD i []).map (Value.int .i64))[j]? = some u → (wr.alloc (.cells #[] 3)).cell? (ad.add j) = some u := by
                    intro j u hu
                    have hj : j < (rows.getD i []).length := by have := (List.getElem?_eq_some_iff.1 hu).1; simpa using this
                    obtain ⟨a', ca', e', _, h'⟩ := (hrow.below HBo.out).rd
                    have hne : rows.getD i [] ≠ [] := by intro e; rw [e] at hj; simp at hj
                    obtain ⟨g', off', e2, hc⟩ := h' hne
                    obtain rfl : ad = ⟨g', off', none⟩ := by injection e' with e1; rw [← e1] at e2; injection e2
                    exact rd_cells hc (World.block_lt_of_cell? wr _ (hc 0 (by omega))) _ j u hu
                  obtain ⟨xs, hxs⟩ : ∃ xs, xs = rows.getD i [] := ⟨_, rfl⟩
                  rw [← hxs] at hnews hxl
                  have HXS := Lib.hid hxs
                  have HXX := Lib.hid hxl
                  have HNW := Lib.hid hnews
                  clear hown ev hci0 hui hrow hxs hxl hnews hul
                  have hi0 : (0 : Int) ≤ (i : Int) := by omega
                  go_wp2_with (first
                    | (at_builtin; (refine wpList_append_row w5 rfl _ _ rfl wq.heap.size _ _ us3 rfl HO5.out.own rfl rfl (by rw [HUL.out]; omega) hsz5 ?_); intro v6 w6 hown6 hg6 hv6; have HOWN6 := Lib.hid hown6; have HG6 := Lib.hid hg6; have HV6 := Lib.hid hv6; clear hown6 hg6 hv6)
                    | (at_builtin; (refine wpList_append_int w4 rfl _ _ rfl wr.heap.size _ xs m hown4' rfl rfl (by rw [HXX.out]; omega) hsz4 ?_); intro v5 w5 hown5 hb5
                       have hown5' := hown5
                       rw [show (xs ++ [(m : Int)]).length = k + 1 by simp [HXX.out]] at hown5'
                       obtain ⟨g5, cap5, rfl, hg5, hg5'⟩ := hown5'.form (by omega)
                       have HOW5 := Lib.hid hown5
                       have HB5 := Lib.hid (HB4.out.trans hb5)
                       have HO5 := Lib.hid (HO.out.below (HB4.out.trans hb5))
                       have hsz5 : wq.heap.size ≤ w5.heap.size := Nat.le_trans hs3 (HB4.out.trans hb5).size
                       have HUL : Hid (us3.length = (growTo c rows i m).length) := HO.out.len
                       clear hown4' hown5 hown5' hb5)
                    | (at_builtin; (refine wpList_append_own _ rfl _ _ 22 rfl wr.heap.size 3 i0 (.int .i64 0) 1 8 Try.underlying22 hi hz0 hz1 hz2 rfl (by decide) _ _ _ rfl (World.ownsRow_made wr #[] 0 (Nat.le_refl _) (by simp [maxLen]) (by simp)) ad k capi (xs.map (Value.int .i64)) rfl (by rw [List.length_map, HXX.out, Nat.mul_one]) HNW.out (ints_oneCell _ _) (by simp only [maxLen]; omega) (by omega) (by simp) ?_); intro v4 w4 hown4 hg4 _
                       have hown4' : w4.ownsRow wr.heap.size 3 1 v4 xs.length (xs.map (Value.int .i64)) := by (rw [HXX.out]; simpa using hown4)
                       have hb4 : Below wr.heap.size wr w4 := ((Below.refl _ _).alloc (Nat.le_refl _) _).grown hg4 (by simp) (show ∀ q, (Value.slice (some ⟨wr.heap.size, 0, none⟩) 0 0).ownBlock = some q → wr.heap.size ≤ q from fun q hq => by injection hq with hq; exact Nat.le_of_eq hq)
                       have hsz4 : wr.heap.size ≤ w4.heap.size := hb4.size
                       have HB4 := Lib.hid hb4
                       clear hown4 hg4 hb4))
                  go_roundw
                  case rel =>
                    have how := Ow.of_row HOW5.out (by rw [List.length_append, HXX.out]; simp only [maxLen, List.length_cons, List.length_nil]; omega)
                    have hpush := HO.out.push (r := xs ++ [(m : Int)]) HB5.out (how.mono hs3) how.block_ge (by simp only [maxLen]; omega) HG6.out HOWN6.out HV6.out
                    rw [HXS.out, ← growTo_succ] at hpush
                    refine ⟨m + 1, _, by omega, by go_num, hpush, fun j hj => ?_, ((HBo.out.trans (HB5.out.mono hs3))).grown HG6.out hsz5 (fun q hq => (HO.out.own.lt q hq).1)⟩
                    rw [growTo_succ, List.length_append, List.length_cons, List.length_nil] at hj
                    by_cases e : j < us3.length
                    · rw [getD_snoc_lt _ _ _ _ e]; exact HNo.out j (by rw [← HUL.out]; exact e)
                    · obtain rfl : j = us3.length := by have := HUL.out; omega
                      rw [getD_snoc_eq]; exact ⟨_, _, rfl⟩
                  case measure => simp [intOf]; omega
                · have hmc : m = c := by omega
                  have HG : Hid (growTo c rows i m = grow c (rows.take (i + 1))) := by show _ = _; rw [hmc]; exact growTo_row c rows i (by rw [HRL.out]; exact hlt2)
                  clear hmc
                  go_wp2_with fail
                  go_roundw
                  case rel => exact ⟨i + 1, us3, by omega, by go_num, by rw [← HG.out]; exact HO.out, by rw [← HG.out]; exact HNo.out, HBo.out⟩
                  case measure => simp [intOf]; omega
            · have hiR : i = R := by omega
              have HIR := Lib.hid hiR
              have HG : Hid (grow c (rows.take i) = ext c (k + 1) []) := by show _ = _; rw [HIR.out, HN.out, ← HRL.out, grow_take_all]
              clear hiR
              go_wp2_with fail
              go_roundw
              case rel => exact ⟨k + 1, us', by omega, by go_num, by rw [← HG.out]; exact HO.out.mono hs0, by rw [← HG.out]; exact HN2.out, HBL.out.trans (HB2.out.mono hs0)⟩
              case measure => simp [intOf]; omega
        · have hkp : k = p := by omega
          have HK := Lib.hid hkp
          have HR := Lib.hid hR
          have HBL := Lib.hid hbel
          clear hkp hR hnn hbel
          go_wp2_with fail
          go_ret
          exact ⟨⟨_, us, rfl, by rw [← HK.out, ← HB.out]; exact HR.out⟩, by rw [← HB.out]; exact HBL.out⟩
    · rw [AC_no (by omega)]
      obtain ⟨h1, h1'⟩ := h1
      go_enter Try.func19, Try.ntmps19
      go_wp2_with (first
        | (go_at_call 41; refine (l1In_yes _ _ _ _ (by omega) (by omega)).mono ?_; rintro e w' ⟨rfl, rfl⟩)
        | (go_at_call 41; refine (l1In_no _ _ _ _ (by omega)).mono ?_; rintro e w' ⟨rfl, rfl⟩))
      go_ret
      exact ⟨⟨_, [], rfl, OwR.made w w.heap.size (Nat.le_refl _)⟩, (Below.refl _ _).alloc (Nat.le_refl _) _⟩
  · rw [AC_no (by omega)]
    go_enter Try.func19, Try.ntmps19
    go_wp2_with (first
      | (go_at_call 41; refine (l1In_no _ _ _ _ (by omega)).mono ?_; rintro e w' ⟨rfl, rfl⟩))
    go_ret
    exact ⟨⟨_, [], rfl, OwR.made w w.heap.size (Nat.le_refl _)⟩, (Below.refl _ _).alloc (Nat.le_refl _) _⟩

theorem spec_AllCodes (p c : Int) (w : World) :
    Calls Try.prog 19 #[.int .i64 p, .int .i64 c] w fun e w' => (∃ v, e = .returned v ∧ RdT w' v (AC p c)) ∧ Below w.heap.size w w' :=
  (spec_AllCodes_own p c w).mono fun _ _ ⟨⟨v, _, e, h⟩, hb⟩ => ⟨⟨v, e, h.rd⟩, hb⟩
end Go.Proofs.Ytkkjgcpkimjfkaa
