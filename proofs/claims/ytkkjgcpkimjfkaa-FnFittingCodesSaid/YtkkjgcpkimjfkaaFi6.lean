/- FittingCodes of the reference model: the loop. -/
import Derived.Test.YtkkjgcpkimjfkaaProg
import Derived.Test.YtkkjgcpkimjfkaaFi5
namespace Go.Proofs.Ytkkjgcpkimjfkaa
open Go.RowKit

theorem RdT.of_own {w : World} {base : Nat} {v : Value} {us : List Value} {rows : List (List Int)} (hown : w.ownsRow base 22 1 v us.length us) (hl : us.length = rows.length) (hm : rows.length ≤ maxLen)
    (hr : ∀ j, j < rows.length → Rd w (us.getD j nilS) (rows.getD j [])) : RdT w v rows := by
  rcases Nat.eq_zero_or_pos rows.length with h0 | h0
  · have e : rows = [] := List.eq_nil_of_length_eq_zero h0
    subst e
    have hu : us = [] := List.eq_nil_of_length_eq_zero hl
    subst hu
    rcases hown.2 with ⟨rfl, _⟩ | ⟨g, cap, cur, rfl, _⟩
    · exact RdT.nil _ _ _
    · exact RdT.nil _ _ _
  · obtain ⟨g, cap, rfl, hb, _⟩ := hown.form (by omega)
    refine ⟨_, cap, by rw [hl], hm, fun _ => ⟨g, 0, rfl, fun j hj => ⟨us.getD j nilS, ?_, hr j hj⟩⟩⟩
    rw [Nat.zero_add, hown.cellAt j (by omega), vals_getD us j (by omega)]

theorem spec_GO {p c : Int} {gs : List Gs} {b : Bool} (e : GOk p c gs = b) (v : Value) (w : World) (h : RdG w v gs) :
    Calls Try.prog 25 #[.int .i64 p, .int .i64 c, v] w (BelRet b w) := by
  rw [← e]; exact spec_GuessesOk p c v gs w h

set_option maxHeartbeats 4000000 in
theorem spec_FittingCodes (p c : Int) (v : Value) (gs : List Gs) (w : World) (h : RdG w v gs) :
    Calls Try.prog 29 #[.int .i64 p, .int .i64 c, v] w fun e w' => (∃ u, e = .returned u ∧ RdT w' u (FC p c gs)) ∧ Below w.heap.size w w' := by
  obtain ⟨wB, hwB⟩ : ∃ wB, wB = w.alloc (.cells #[] 22) := ⟨_, rfl⟩
  have hb : Below w.heap.size w wB := by rw [hwB]; exact (Below.refl _ _).alloc (Nat.le_refl _) _
  have hoB : wB.ownsRow w.heap.size 22 1 (.slice (some ⟨w.heap.size, 0, none⟩) 0 0) 0 [] := by rw [hwB]; exact World.ownsRow_made w #[] 0 (Nat.le_refl _) (by simp [maxLen]) (by simp)
  have HG := Lib.hid h
  have HB := Lib.hid hb
  have HOB := Lib.hid hoB
  cases hok : GOk p c gs with
  | false =>
    have KO := Lib.hid (spec_GO hok v wB (h.below hb))
    have HF := Lib.hid (FC_no hok)
    clear hok h hb hoB
    go_enter Try.func29, Try.ntmps29
    go_wp2_with fail
    rw [← hwB]
    refine KO.out.mono ?_
    rintro e w1 ⟨rfl, hb1⟩
    have HB1 := Lib.hid (HB.out.trans (hb1.mono HB.out.size))
    clear hb1
    go_wp2_with fail
    go_ret
    exact ⟨⟨_, rfl, by rw [HF.out]; exact RdT.nil _ _ _⟩, HB1.out⟩
  | true =>
    have KO := Lib.hid (spec_GO hok v wB (h.below hb))
    have HF := Lib.hid (FC_yes hok)
    obtain ⟨p0, _, hlen, _⟩ := AC_facts p c
    have ka := Lib.hid (fun w => spec_AllCodes_own p c w)
    generalize AC p c = rows at *
    generalize hn : rows.length = n at *
    have HN := Lib.hid hn
    clear hok h hb hoB hn
    go_enter Try.func29, Try.ntmps29
    go_wp2_with fail
    rw [← hwB]
    refine KO.out.mono ?_
    rintro e w1 ⟨rfl, hb1⟩
    have HB1 := Lib.hid (HB.out.trans (hb1.mono HB.out.size))
    have HO1 := Lib.hid (HOB.out.kept (grownBy_any none hb1) (by simp [Value.ownBlock]))
    have HL1 : Hid (w.heap.size < w1.heap.size) := (HO1.out.lt _ rfl).2
    clear hb1 KO hwB HOB HB
    go_wp2_with fail
    refine (ka.out w1).mono ?_
    rintro e w2 ⟨⟨va, usa, rfl, ho⟩, hb2⟩
    have HA2 := Lib.hid ho
    have HB2 := Lib.hid (HB1.out.trans (hb2.mono HB1.out.size))
    have HO2 := Lib.hid (HO1.out.kept (grownBy_any none hb2) (by simp [Value.ownBlock]))
    have HS2 : Hid (w1.heap.size ≤ w2.heap.size) := hb2.size
    have HV2 : Hid (∀ b, (Value.slice (some ⟨w.heap.size, 0, none⟩) 0 0).ownBlock = some b → b < w1.heap.size ∨ w2.heap.size ≤ b) := fun b hb => by
      simp [Value.ownBlock] at hb
      have := HL1.out
      omega
    obtain ⟨a, ca, rfl, _, _⟩ := ho.rd
    rw [HN.out] at HA2 ⊢
    obtain ⟨B, hB⟩ : ∃ B, B = w.heap.size := ⟨_, rfl⟩
    have HBE := Lib.hid hB
    rw [← hB] at HB2 HO2
    clear hb2 ho ka HB1 HO1 hB
    go_wp2_with fail
    go_loopw [7, 9] (fun vo qk wr => ∃ k : Nat, k ≤ n ∧ qk = .int .i64 k ∧ Hid (wr.ownsRow B 22 1 vo ((kidx (fun r => !Fit p c gs r) rows k).map (fun j => usa.getD j nilS)).length ((kidx (fun r => !Fit p c gs r) rows k).map (fun j => usa.getD j nilS))) ∧
      Hid (OwR wr w1.heap.size (.slice a n ca) usa rows) ∧ Hid (∀ b, vo.ownBlock = some b → b < w1.heap.size ∨ w2.heap.size ≤ b) ∧ Hid (Below B w wr) ∧ Hid (w2.heap.size ≤ wr.heap.size)) (fun _ qk _ => n - (intOf qk).toNat)
    case atStart => exact ⟨0, by omega, rfl, by show World.ownsRow _ _ _ _ _ _ _; rw [← HBE.out]; exact HO2.out, HA2.out, HV2.out, HB2.out, Nat.le_refl _⟩
    case round =>
      clear HO2 HV2 HB2
      obtain ⟨k, hk, rfl, HO, HA, HV, HB, HS⟩ := hrel
      by_cases hlt : k < n
      · have hul : usa.length = n := HA.out.len.trans HN.out
        have hown := HA.out.own
        rw [hul] at hown
        obtain ⟨g, cap, ev, hbg, hgl⟩ := hown.form (by omega)
        obtain ⟨rfl, rfl⟩ : a = some ⟨g, 0, none⟩ ∧ ca = cap := by injection ev with e1 _ e3; exact ⟨e1, e3⟩
        have hcj := hown.cellAt k (by omega)
        rw [vals_getD usa k (by omega)] at hcj
        have hru := HA.out.row k (by rw [HN.out]; exact hlt)
        have hbw : Below w.heap.size w wr := by rw [← HBE.out]; exact HB.out
        have K := Lib.hid (l4Fits_any p c v (usa.getD k nilS) gs (rows.getD k []) wr (HG.out.below hbw) hru.rd)
        obtain ⟨x, cx, hux, _, _⟩ := hru
        have HUX := Lib.hid hux
        rw [hux] at hcj K
        generalize (rows.getD k []).length = lk at *
        have HPT : Hid ((!Fit p c gs (rows.getD k [])) = true → kidx (fun r => !Fit p c gs r) rows (k + 1) = kidx (fun r => !Fit p c gs r) rows k) := fun h => kidx_yes (P := fun r => !Fit p c gs r) h
        have HPF : Hid ((!Fit p c gs (rows.getD k [])) = false → kidx (fun r => !Fit p c gs r) rows (k + 1) = kidx (fun r => !Fit p c gs r) rows k ++ [k]) := fun h => kidx_no (P := fun r => !Fit p c gs r) h
        generalize Fit p c gs (rows.getD k []) = b at *
        have HLE : Hid ((kidx (fun r => !Fit p c gs r) rows k).length ≤ k) := kidx_le _ _ _
        generalize kidx (fun r => !Fit p c gs r) rows k = idx at *
        have hk0 : (0 : Int) ≤ (k : Int) := by omega
        have hk1 : (k : Int) < (n : Int) := by omega
        have HGW : Hid (g < wr.heap.size) := hgl
        clear hown hul hux hbw ev hbg hgl
        go_wp2_with fail
        refine K.out.mono ?_
        rintro e w3 ⟨rfl, hb3⟩
        have HO3 := Lib.hid (HO.out.kept (grownBy_any none hb3) (by cases hv : u7.ownBlock <;> simp))
        have HA3 := Lib.hid (HA.out.below hb3)
        have HB3 := Lib.hid (HB.out.trans (hb3.mono (by rw [HBE.out]; exact Nat.le_trans (Nat.le_of_lt HL1.out) (Nat.le_trans HS2.out HS.out))))
        have HS3 : Hid (w2.heap.size ≤ w3.heap.size) := Nat.le_trans HS.out hb3.size
        have hcj3 := (hb3.cell (p := ⟨g, k, none⟩) HGW.out).trans hcj
        clear hb3 K HO HA HB HS hcj
        cases b with
        | false =>
          have HE := Lib.hid (HPT.out rfl)
          clear HPT HPF
          go_wp2_with fail
          go_roundw
          case rel => exact ⟨k + 1, by omega, by go_num, by rw [HE.out]; exact HO3.out, HA3.out, HV.out, HB3.out, HS3.out⟩
          case measure => simp [intOf]; omega
        | true =>
          have HE := Lib.hid (HPF.out rfl)
          have hl9 : (idx.map (fun j => usa.getD j nilS)).length < 1000000000 := by rw [List.length_map]; have := HLE.out; omega
          have hs3 : B ≤ w3.heap.size := by rw [HBE.out]; exact Nat.le_trans (Nat.le_of_lt HL1.out) (Nat.le_trans HS2.out HS3.out)
          have HL9 := Lib.hid hl9
          have HSS := Lib.hid hs3
          clear HPT HPF hl9 hs3
          go_wp2_with (first
            | (at_builtin; (refine wpList_append_row w3 rfl _ _ rfl B _ (.slice x lk cx) _ rfl HO3.out rfl rfl HL9.out HSS.out ?_); intro v4 w4 hown4 hg4 hv4; have HO4 := Lib.hid hown4; have HG4 := Lib.hid hg4; have HV4 := Lib.hid hv4; clear hown4 hg4 hv4))
          go_roundw
          case rel =>
            refine ⟨k + 1, by omega, by go_num, ?_, HA3.out.kept HG4.out (fun b hb => ?_), fun b hb => ?_, HB3.out.grown HG4.out HSS.out (fun q hq => (HO3.out.lt q hq).1), Nat.le_trans HS3.out HG4.out.size⟩
            · show World.ownsRow _ _ _ _ _ _ _
              rw [HE.out, List.map_append, List.map_cons, List.map_nil, HUX.out]
              exact HO4.out
            · have hout := HV.out b hb
              refine ⟨fun e => ?_, fun j hj e => ?_⟩
              · have := HA2.out.base_le b (.inl e); omega
              · have := HA2.out.base_le b (.inr ⟨j, hj, e⟩); omega
            · rcases HV4.out with e | ⟨d, e, hd⟩
              · exact HV.out b (e.symm.trans hb)
              · rw [e] at hb
                injection hb with hb
                have := HS3.out
                omega
          case measure => simp [intOf]; omega
      · have hkn : k = n := by omega
        have HK := Lib.hid hkn
        clear hkn
        go_wp2_with fail
        go_ret
        refine ⟨⟨_, rfl, ?_⟩, by rw [← HBE.out]; exact HB.out⟩
        have hfin : FC p c gs = (kidx (fun r => !Fit p c gs r) rows rows.length).map (fun j => rows.getD j []) := by
          rw [HF.out, kidx_rows]
          simp only [Bool.not_not]
        rw [hfin, HN.out, ← HK.out]
        refine RdT.of_own HO.out (by simp) (by rw [List.length_map]; have := kidx_le (fun r => !Fit p c gs r) rows k; simp only [maxLen]; omega) (fun j hj => ?_)
        rw [List.length_map] at hj
        rw [getD_map _ _ _ _ hj, getD_map _ _ _ _ hj]
        exact (HA.out.row _ (by rw [HN.out, ← HK.out]; exact kidx_lt _ _ _ _ (List.getElem_mem hj))).rd
end Go.Proofs.Ytkkjgcpkimjfkaa
