/- FittingCodes of the reference model. -/
import Derived.Test.YtkkjgcpkimjfkaaProg
import Derived.Test.YtkkjgcpkimjfkaaFi4
namespace Go.Proofs.Ytkkjgcpkimjfkaa
open Go.RowKit

theorem all_hit {P : Gs → Bool} {gs : List Gs} (h : ∀ k, k < gs.length → P (gs.getD k gNil) = true) : gs.all P = true := by
  rw [List.all_eq_true]
  intro x hx
  obtain ⟨j, hj, rfl⟩ := List.mem_iff_getElem.1 hx
  have := h j hj
  rwa [List.getD_eq_getElem?_getD, List.getElem?_eq_getElem hj] at this
theorem all_miss {P : Gs → Bool} {gs : List Gs} {k : Nat} (hk : k < gs.length) (h : P (gs.getD k gNil) = false) : gs.all P = false := by
  rw [List.all_eq_false]
  exact ⟨gs.getD k gNil, by rw [List.getD_eq_getElem?_getD, List.getElem?_eq_getElem hk]; exact List.getElem_mem hk, by rw [h]; simp⟩

set_option maxHeartbeats 2000000 in
theorem l4Fits_any (p c : Int) (v uc : Value) (gs : List Gs) (code : List Int) (w : World) (h : RdG w v gs) (hco : Rd w uc code) :
    Calls Try.prog 53 #[.int .i64 p, .int .i64 c, v, uc] w (BelRet (Fit p c gs code) w) := by
  obtain ⟨a, ca, rfl, hm, ha⟩ := h
  unfold maxLen at hm
  have HA := Lib.hid ha
  have HCO := Lib.hid hco
  obtain ⟨xc, cc, rfl, _, _⟩ := hco
  clear ha
  generalize hn : gs.length = n at *
  have HN := Lib.hid hn
  clear hn
  go_enter Try.func53, Try.ntmps53
  go_wp2_with fail
  go_loopw [9] (fun q wr => ∃ k : Nat, k ≤ n ∧ q = .int .i64 k ∧ Hid (∀ j, j < k → Hit p c code (gs.getD j gNil) = true) ∧ Below w.heap.size w wr) (fun q _ => n - (intOf q).toNat)
  case atStart => exact ⟨0, by omega, rfl, fun j hj => by omega, Below.refl _ _⟩
  case round =>
    obtain ⟨k, hk, rfl, HP, hbel⟩ := hrel
    by_cases hlt : k < n
    · have hne : gs ≠ [] := by intro e; have := HN.out; rw [e] at this; simp at this; omega
      obtain ⟨g, off, rfl, hc⟩ := HA.out hne
      obtain ⟨u, h1, hru, h2, h3⟩ := hc k hlt
      have hg := World.block_lt_of_cell? w _ h1
      have HG := Lib.hid hg
      have c1 := (hbel.cell (p := ⟨g, off + k * 3, none⟩) hg).trans h1
      have c2 := (hbel.cell (p := ⟨g, off + k * 3 + 1, none⟩) hg).trans h2
      have c3 := (hbel.cell (p := ⟨g, off + k * 3 + 2, none⟩) hg).trans h3
      have K := Lib.hid (spec_AnswerTo p c _ u code (gs.getD k gNil).code wr (HCO.out.below hbel) (hru.below hbel))
      obtain ⟨x, cx, rfl, _, _⟩ := hru
      have HH : Hid (Hit p c code (gs.getD k gNil) = (decide (RA p c code (gs.getD k gNil).code = (gs.getD k gNil).right) && decide (RB p c code (gs.getD k gNil).code = (gs.getD k gNil).near))) := rfl
      have HPK : Hid (Hit p c code (gs.getD k gNil) = true → ∀ j, j < k + 1 → Hit p c code (gs.getD j gNil) = true) := by
        intro hb j hj
        by_cases e : j = k
        · rw [e]; exact hb
        · exact HP.out j (by omega)
      have HMs : Hid (Hit p c code (gs.getD k gNil) = false → Fit p c gs code = false) := fun hb => all_miss (by rw [HN.out]; exact hlt) hb
      generalize RA p c code (gs.getD k gNil).code = ra at *
      generalize RB p c code (gs.getD k gNil).code = rb at *
      generalize (gs.getD k gNil).right = r at *
      generalize (gs.getD k gNil).near = q at *
      generalize (gs.getD k gNil).code.length = lk at *
      generalize Hit p c code (gs.getD k gNil) = hit at *
      generalize code.length = lc at *
      have HB := Lib.hid hbel
      have hi0 : (0 : Int) ≤ (k : Int) := by omega
      have hi1 : (k : Int) < (n : Int) := by omega
      clear hc hne h1 h2 h3 HP hbel
      have hwl : g < wr.heap.size := Nat.lt_of_lt_of_le hg HB.out.size
      have HWL := Lib.hid hwl
      clear hg hwl
      by_cases hra : ra = r
      · subst hra
        by_cases hrb : rb = q
        · subst hrb
          have HT := Lib.hid (HPK.out (by rw [HH.out]; simp))
          clear HH HMs HPK
          go_wp2_with fail
          refine K.out.mono ?_
          rintro e w1 ⟨rfl, hb1⟩
          have HB1 := Lib.hid (HB.out.trans (hb1.mono HB.out.size))
          have d2 := (hb1.cell (p := ⟨g, off + k * 3 + 1, none⟩) HWL.out).trans c2
          have d3 := (hb1.cell (p := ⟨g, off + k * 3 + 2, none⟩) HWL.out).trans c3
          clear hb1 K c1 c2 c3
          go_wp2_with fail
          go_roundw
          case rel => exact ⟨k + 1, by omega, by go_num, HT.out, HB1.out⟩
          case measure => simp [intOf]; omega
        · have hrb2 : (rb == q) = false := by rw [beq_eq_false_iff_ne]; exact hrb
          have HR := Lib.hid (HMs.out (by rw [HH.out]; simp [hrb]))
          clear HH HMs HPK
          go_wp2_with fail
          refine K.out.mono ?_
          rintro e w1 ⟨rfl, hb1⟩
          have HB1 := Lib.hid (HB.out.trans (hb1.mono HB.out.size))
          have d2 := (hb1.cell (p := ⟨g, off + k * 3 + 1, none⟩) HWL.out).trans c2
          have d3 := (hb1.cell (p := ⟨g, off + k * 3 + 2, none⟩) HWL.out).trans c3
          clear hb1 K c1 c2 c3
          go_wp2_with fail
          go_ret
          exact ⟨ret_bool HR.out.symm, HB1.out⟩
      · have hra2 : (ra == r) = false := by rw [beq_eq_false_iff_ne]; exact hra
        have HR := Lib.hid (HMs.out (by rw [HH.out]; simp [hra]))
        clear HH HMs HPK
        go_wp2_with fail
        refine K.out.mono ?_
        rintro e w1 ⟨rfl, hb1⟩
        have HB1 := Lib.hid (HB.out.trans (hb1.mono HB.out.size))
        have d2 := (hb1.cell (p := ⟨g, off + k * 3 + 1, none⟩) HWL.out).trans c2
        clear hb1 K c1 c2 c3
        go_wp2_with fail
        go_ret
        exact ⟨ret_bool HR.out.symm, HB1.out⟩
    · have hkn : k = n := by omega
      have HM : Hid (Fit p c gs code = true) := all_hit (fun j hj => HP.out j (by rw [hkn, ← HN.out]; exact hj))
      have HB := Lib.hid hbel
      clear HP hbel hkn
      go_wp2_with fail
      go_ret
      exact ⟨ret_bool HM.out.symm, HB.out⟩
end Go.Proofs.Ytkkjgcpkimjfkaa
