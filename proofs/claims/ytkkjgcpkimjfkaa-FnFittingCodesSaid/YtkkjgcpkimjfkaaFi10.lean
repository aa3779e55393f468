/- The law FnFittingCodes. -/
import Derived.Test.YtkkjgcpkimjfkaaProg
import Derived.Test.YtkkjgcpkimjfkaaFi9
import Derived.Test.YtkkjgcpkimjfkaaAlive
import Derived.Deep.RegionHeld3
namespace Go.Proofs.Ytkkjgcpkimjfkaa
open Go.RowKit

set_option maxRecDepth 100000 in
set_option maxHeartbeats 8000000 in
theorem law_FnFittingCodes (a0 : Option Addr) (len0 cap0 : Nat) (z0 : List Int) (w : World) (w0 : IsRow .u8 w a0 len0 cap0 z0) :
    Calls Try.prog 12 #[.slice a0 len0 cap0] w fun e w' => e = .returned (.bool true) ∧ Below w.heap.size w w' := by
  have hc := Code8.of_row w0
  clear w0
  by_cases hl : 1048576 < len0
  · go_enter Try.func12, Try.ntmps12
    go_wp2_with fail
    go_ret
    exact ⟨rfl, Below.refl _ _⟩
  · go_enter Try.func12, Try.ntmps12
    go_wp2_with fail
    refine (draw_FittingCodes _ _ _ _ hc).mono ?_
    rintro e w1 ⟨P, C, v, T, rfl, hD, hT, hb1⟩
    have hrd := hD.rd (by simp only [maxLen]; omega)
    obtain ⟨a, cap, rfl, hcap⟩ : ∃ a cap, v = .slice a (T.map (·.2)).length cap ∧ (T.map (·.2)).length ≤ cap := by
      rcases hD.own.2 with ⟨rfl, h0⟩ | ⟨g, cap, cur, rfl, _, _, h0, _⟩
      · exact ⟨none, 0, by simp [h0], by simp [h0]⟩
      · exact ⟨some ⟨g, 0, none⟩, cap, by simp, by simpa using h0⟩
    have hgl : (T.map (·.2)).length ≤ 4 := by simpa using hT
    clear hD hT hc
    generalize T.map (·.2) = gs at *
    have ki := Lib.hid (fun v gs w h => impl_FittingCodes P C v gs w h)
    unfold FcPost at ki
    have ks := Lib.hid (fun w h => spec_FittingCodes P C (.slice a gs.length cap) gs w h)
    have kg := Lib.hid (fun w h => spec_GuessesOk P C (.slice a gs.length cap) gs w h)
    have R1 := Lib.hid hrd
    have B1 := Lib.hid hb1
    clear hrd hb1
    generalize hn : gs.length = n at *
    have HN := Lib.hid hn
    clear hn
    go_wp2_with fail
    refine (ki.out _ gs _ R1.out).mono ?_
    rintro e w2 ⟨⟨v2, us2, rfl, o2⟩, hb2⟩
    have HLESS0 := Lib.hid (fun (h : GOk P C gs = true) m => FC_less h m)
    have HHIT0 := Lib.hid (fun (h : GOk P C gs = true) => FC_hit h)
    have HFN := Lib.hid (fun (h : GOk P C gs = false) => FC_no h)
    have HFA : Hid (GOk P C gs = true → n = 0 → AC P C = FC P C gs) := fun h h0 => by
      have e : gs = [] := List.eq_nil_of_length_eq_zero (by rw [HN.out]; exact h0)
      subst e
      exact (FC_nil h).symm
    generalize hrows : FC P C gs = rows at *
    have HROWS := Lib.hid hrows
    clear hrows
    generalize hm : rows.length = m at *
    have HM := Lib.hid hm
    have O2 := Lib.hid o2.rd
    obtain ⟨ac, cc, rfl, hmx, _⟩ := o2.rd
    rw [hm] at O2 hmx ⊢
    unfold maxLen at hmx
    have B2 := Lib.hid (B1.out.trans (hb2.mono B1.out.size))
    have R2 := Lib.hid (R1.out.below hb2)
    clear o2 hb2 hm
    go_wp2_with fail
    refine (ks.out _ R2.out).mono ?_
    rintro e w3 ⟨⟨v3, rfl, r3⟩, hb3⟩
    have Q3 := Lib.hid r3
    have O3 := Lib.hid (O2.out.below hb3)
    have R3 := Lib.hid (R2.out.below hb3)
    have B3 := Lib.hid (B2.out.trans (hb3.mono B2.out.size))
    clear r3 hb3 O2 R2
    go_wp2_with fail
    refine (sameRows_yes _ _ rows _ O3.out Q3.out).mono ?_
    rintro e w4 ⟨rfl, hb4⟩
    have O4 := Lib.hid (O3.out.below hb4)
    have R4 := Lib.hid (R3.out.below hb4)
    have B4 := Lib.hid (B3.out.trans (hb4.mono B3.out.size))
    clear hb4 O3 R3 Q3
    cases hok : GOk P C gs with
    | false =>
      have hm0 : m = 0 := by rw [← HM.out, HFN.out hok]; rfl
      rw [hok] at kg
      subst hm0
      clear HLESS0 HHIT0 HFN HFA hok
      go_wp2_with fail
      refine (kg.out _ R4.out).mono ?_
      rintro e w5 ⟨rfl, hb5⟩
      have B5 := Lib.hid (B4.out.trans (hb5.mono B4.out.size))
      clear hb5
      go_wp2_with (first | (go_at_call 33; refine (alive_any _).mono ?_; rintro e w6 ⟨rfl, rfl⟩))
      go_ret
      exact ⟨rfl, B5.out⟩
    | true =>
      have HLESS1 := Lib.hid (HLESS0.out hok)
      have HHIT : Hid (∀ k, k < m → ∀ i, i < n → RA P C (rows.getD k []) (gs.getD i gNil).code = (gs.getD i gNil).right ∧ RB P C (rows.getD k []) (gs.getD i gNil).code = (gs.getD i gNil).near) := fun k hk i hi => by
        exact HHIT0.out hok k hk i (by rw [HN.out]; exact hi)
      have HFA1 := Lib.hid (HFA.out hok)
      rw [hok] at kg
      clear HLESS0 HHIT0 HFN HFA hok
      go_wp2_with fail
      refine (kg.out _ R4.out).mono ?_
      rintro e w5 ⟨rfl, hb5⟩
      have O5 := Lib.hid (O4.out.below hb5)
      have R5 := Lib.hid (R4.out.below hb5)
      have B5 := Lib.hid (B4.out.trans (hb5.mono B4.out.size))
      clear hb5 O4 R4
      go_wp2_with fail
      refine (impl_AllCodes P C _).mono ?_
      rintro e w6 ⟨⟨v6, us6, rfl, o6⟩, hb6⟩
      have O6 := Lib.hid (O5.out.below hb6)
      have R6 := Lib.hid (R5.out.below hb6)
      have B6 := Lib.hid (B5.out.trans (hb6.mono B5.out.size))
      have Q6 := Lib.hid o6.rd
      clear hb6 o6 O5 R5
      by_cases hn0 : n = 0
      · have hng : ¬ (0 : Int) < (n : Int) := by omega
        have HFA2 := Lib.hid (HFA1.out hn0)
        rw [HFA2.out] at Q6
        obtain ⟨BF, hBF⟩ : ∃ BF, BF = rows := ⟨_, rfl⟩
        have HLESS : Hid (∀ k, k < m → ∃ i, i < BF.length ∧ BF.getD i [] = rows.getD k []) := fun k hk => ⟨k, by rw [hBF, HM.out]; exact hk, by rw [hBF]⟩
        have HBF : Hid (RdT w6 v6 BF) := by show RdT _ _ _; rw [hBF]; exact Q6.out
        have HB6L : Hid (BF.length = m) := by show _ = _; rw [hBF]; exact HM.out
        obtain ⟨ab, cb, rfl, _, _⟩ := HBF.out
        obtain ⟨_, _, ec, _, hcd⟩ := O6.out
        injection ec with ec1 ec2 ec3
        subst ec1 ec3
        rw [HM.out] at hcd
        have HCD := Lib.hid hcd
        obtain ⟨_, _, el, _, hls⟩ := R6.out
        injection el with el1 el2 el3
        subst el1 el3
        rw [HN.out] at hls
        have HLS := Lib.hid hls
        have HBF := Lib.hid (show RdT w6 (.slice ab m cb) BF by rw [← HB6L.out]; exact HBF.out)
        rw [HB6L.out]
        obtain ⟨wX, hwX⟩ : ∃ wX, wX = w6 := ⟨_, rfl⟩
        subst hwX
        have HX := Lib.hid B6.out
        clear ec2 el2 hcd hls hBF Q6
        go_wp2_with fail
        go_loopw [8] (fun qk wr => ∃ k : Nat, k ≤ m ∧ qk = .int .i64 k ∧ Hid (Below wX.heap.size wX wr)) (fun qk _ => m - (intOf qk).toNat)
        case atStart => exact ⟨0, by omega, rfl, Below.refl _ _⟩
        case round =>
          obtain ⟨k, hk, rfl, HB⟩ := hrel
          by_cases hlt : k < m
          · have hne : rows ≠ [] := by intro e; have := HM.out; rw [e] at this; simp at this; omega
            obtain ⟨g, off, rfl, hc⟩ := HCD.out hne
            obtain ⟨u, h1, hru⟩ := hc k hlt
            have hg := World.block_lt_of_cell? wX _ h1
            have c1 := (HB.out.cell (p := ⟨g, off + k, none⟩) hg).trans h1
            obtain ⟨i0, hi0, he0⟩ := HLESS.out k hlt
            have K := Lib.hid (hasRow_yes _ u BF (rows.getD k []) wr (HBF.out.below HB.out) (hru.below HB.out) i0 hi0 he0)
            have HHK : Hid (∀ i, i < n → RA P C (rows.getD k []) (gs.getD i gNil).code = (gs.getD i gNil).right ∧ RB P C (rows.getD k []) (gs.getD i gNil).code = (gs.getD i gNil).near) := HHIT.out k hlt
            have HRU := Lib.hid hru
            have HC1 : Hid (wX.cell? ⟨g, off + k, none⟩ = some u) := h1
            have HGX : Hid (g < wX.heap.size) := hg
            obtain ⟨x, cx, rfl, _, _⟩ := hru
            generalize (rows.getD k []).length = lk at *
            have hk0 : (0 : Int) ≤ (k : Int) := by omega
            have hk1 : (k : Int) < (m : Int) := by omega
            clear hc hne h1 hg hi0 he0
            go_wp2_with fail
            refine K.out.mono ?_
            rintro e w7 ⟨rfl, hb7⟩
            have HB7 := Lib.hid (HB.out.trans (hb7.mono HB.out.size))
            clear hb7 K c1
            go_wp2_with fail
            go_loopw [9] (fun qi wr => ∃ i : Nat, i ≤ n ∧ qi = .int .i64 i ∧ Hid (Below wX.heap.size wX wr)) (fun qi _ => n - (intOf qi).toNat)
            case atStart => exact ⟨0, by omega, rfl, HB7.out⟩
            case round =>
              clear HB HB7
              obtain ⟨i, hi, rfl, HB⟩ := hrel
              by_cases hlti : i < n
              · exact absurd hlti (by omega)
              · have hin : ¬ (i : Int) < (n : Int) := by omega
                go_wp2_with fail
                go_roundw
                case rel => exact ⟨k + 1, by omega, by go_num, HB.out⟩
                case measure => simp [intOf]; omega
          · have hkm : ¬ (k : Int) < (m : Int) := by omega
            go_wp2_with fail
            go_ret
            exact ⟨rfl, HX.out.trans (HB.out.mono HX.out.size)⟩
      · have hng : (0 : Int) < (n : Int) := by omega
        have hng1 : (0 : Int) ≤ (n : Int) - 1 := by omega
        have hng2 : (n : Int) - 1 ≤ (cap : Int) := by omega
        have hng3 : ((n : Int) - 1).toNat = n - 1 := by omega
        have RT := Lib.hid (R6.out.take (n - 1) (by omega))
        have HLESS2 : Hid (∀ k, k < m → ∃ i, i < (FC P C (gs.take (n - 1))).length ∧ (FC P C (gs.take (n - 1))).getD i [] = rows.getD k []) := fun k hk => by
          exact HLESS1.out (n - 1) k hk
        clear HLESS1 HFA1 Q6
        go_wp2_with fail
        refine (ki.out _ (gs.take (n - 1)) _ RT.out).mono ?_
        rintro e w8 ⟨⟨v8, us8, rfl, o8⟩, hb8⟩
        generalize FC P C (gs.take (n - 1)) = BF at *
        have HLESS := Lib.hid HLESS2.out
        have HBF := Lib.hid o8.rd
        have O8 := Lib.hid (O6.out.below hb8)
        have R8 := Lib.hid (R6.out.below hb8)
        have B8 := Lib.hid (B6.out.trans (hb8.mono B6.out.size))
        obtain ⟨ab, cb, rfl, _, _⟩ := HBF.out
        obtain ⟨_, _, ec, _, hcd⟩ := O8.out
        injection ec with ec1 ec2 ec3
        subst ec1 ec3
        rw [HM.out] at hcd
        have HCD := Lib.hid hcd
        obtain ⟨_, _, el, _, hls⟩ := R8.out
        injection el with el1 el2 el3
        subst el1 el3
        rw [HN.out] at hls
        have HLS := Lib.hid hls
        obtain ⟨wX, hwX⟩ : ∃ wX, wX = w8 := ⟨_, rfl⟩
        subst hwX
        have HX := Lib.hid B8.out
        clear ec2 el2 hcd hls hb8 o8 HLESS2 O6 R6 hng1 hng2 hng3
        go_wp2_with fail
        go_loopw [8] (fun qk wr => ∃ k : Nat, k ≤ m ∧ qk = .int .i64 k ∧ Hid (Below wX.heap.size wX wr)) (fun qk _ => m - (intOf qk).toNat)
        case atStart => exact ⟨0, by omega, rfl, Below.refl _ _⟩
        case round =>
          obtain ⟨k, hk, rfl, HB⟩ := hrel
          by_cases hlt : k < m
          · have hne : rows ≠ [] := by intro e; have := HM.out; rw [e] at this; simp at this; omega
            obtain ⟨g, off, rfl, hc⟩ := HCD.out hne
            obtain ⟨u, h1, hru⟩ := hc k hlt
            have hg := World.block_lt_of_cell? wX _ h1
            have c1 := (HB.out.cell (p := ⟨g, off + k, none⟩) hg).trans h1
            obtain ⟨i0, hi0, he0⟩ := HLESS.out k hlt
            have K := Lib.hid (hasRow_yes _ u BF (rows.getD k []) wr (HBF.out.below HB.out) (hru.below HB.out) i0 hi0 he0)
            have HHK : Hid (∀ i, i < n → RA P C (rows.getD k []) (gs.getD i gNil).code = (gs.getD i gNil).right ∧ RB P C (rows.getD k []) (gs.getD i gNil).code = (gs.getD i gNil).near) := HHIT.out k hlt
            have HRU := Lib.hid hru
            have HC1 : Hid (wX.cell? ⟨g, off + k, none⟩ = some u) := h1
            have HGX : Hid (g < wX.heap.size) := hg
            obtain ⟨x, cx, rfl, _, _⟩ := hru
            generalize (rows.getD k []).length = lk at *
            have hk0 : (0 : Int) ≤ (k : Int) := by omega
            have hk1 : (k : Int) < (m : Int) := by omega
            clear hc hne h1 hg hi0 he0
            go_wp2_with fail
            refine K.out.mono ?_
            rintro e w7 ⟨rfl, hb7⟩
            have HB7 := Lib.hid (HB.out.trans (hb7.mono HB.out.size))
            clear hb7 K c1
            go_wp2_with fail
            go_loopw [9] (fun qi wr => ∃ i : Nat, i ≤ n ∧ qi = .int .i64 i ∧ Hid (Below wX.heap.size wX wr)) (fun qi _ => n - (intOf qi).toNat)
            case atStart => exact ⟨0, by omega, rfl, HB7.out⟩
            case round =>
              clear HB HB7
              obtain ⟨i, hi, rfl, HB⟩ := hrel
              by_cases hlti : i < n
              · have hne : gs ≠ [] := by intro e; have := HN.out; rw [e] at this; simp at this; omega
                obtain ⟨gl, ol, rfl, hcl⟩ := HLS.out hne
                obtain ⟨y, k1, hry, k2, k3⟩ := hcl i hlti
                have hgl := World.block_lt_of_cell? wX _ k1
                have d0 := (HB.out.cell (p := ⟨g, off + k, none⟩) HGX.out).trans HC1.out
                have d1 := (HB.out.cell (p := ⟨gl, ol + i * 3, none⟩) hgl).trans k1
                have d2 := (HB.out.cell (p := ⟨gl, ol + i * 3 + 1, none⟩) hgl).trans k2
                have d3 := (HB.out.cell (p := ⟨gl, ol + i * 3 + 2, none⟩) hgl).trans k3
                have ka := Lib.hid (impl_AnswerTo P C _ y (rows.getD k []) (gs.getD i gNil).code wr.drew ((HRU.out.below HB.out).below (Below.refl _ _).drew) ((hry.below HB.out).below (Below.refl _ _).drew))
                rw [(HHK.out i hlti).1, (HHK.out i hlti).2] at ka
                unfold ANPost at ka
                obtain ⟨yy, cy, rfl, _, _⟩ := hry
                generalize (gs.getD i gNil).code.length = ly at *
                generalize (gs.getD i gNil).right = ra at *
                generalize (gs.getD i gNil).near = rb at *
                have hi0 : (0 : Int) ≤ (i : Int) := by omega
                have hi1 : (i : Int) < (n : Int) := by omega
                have HG1 : Hid (g < wr.heap.size) := Nat.lt_of_lt_of_le HGX.out HB.out.size
                have HG2 : Hid (gl < wr.heap.size) := Nat.lt_of_lt_of_le hgl HB.out.size
                have D2 := Lib.hid d2
                have D3 := Lib.hid d3
                clear hcl hne k1 k2 k3 hgl d2 d3
                go_wp2_with fail
                go_region_held3 (fun w' => w'.cell? ⟨g, off + k, none⟩ = some (.slice x lk cx) ∧ w'.cell? ⟨gl, ol + i * 3, none⟩ = some (.slice yy ly cy))
                  (first | go_keep | (go_split_ands; exact ⟨(hb2.cell (p := ⟨g, off + k, none⟩) HG1.out).trans d0, (hb2.cell (p := ⟨gl, ol + i * 3, none⟩) HG2.out).trans d1⟩))
                  (first | (go_at_call 18; (with_reducible refine ka.out.mono ?_); rintro e w2 ⟨rfl, hb2⟩))
                have e2 := (hb2.cell (p := ⟨gl, ol + i * 3 + 1, none⟩) HG2.out).trans D2.out
                have e3 := (hb2.cell (p := ⟨gl, ol + i * 3 + 2, none⟩) HG2.out).trans D3.out
                have HB2 := Lib.hid (HB.out.drew.trans (hb2.mono HB.out.size))
                clear hb2 ka d0 d1
                go_wp2_with fail
                go_roundw
                case rel => exact ⟨i + 1, by omega, by go_num, HB2.out⟩
                case measure => simp [intOf]; omega
              · have hin : ¬ (i : Int) < (n : Int) := by omega
                go_wp2_with fail
                go_roundw
                case rel => exact ⟨k + 1, by omega, by go_num, HB.out⟩
                case measure => simp [intOf]; omega
          · have hkm : ¬ (k : Int) < (m : Int) := by omega
            go_wp2_with fail
            go_ret
            exact ⟨rfl, HX.out.trans (HB.out.mono HX.out.size)⟩
end Go.Proofs.Ytkkjgcpkimjfkaa
