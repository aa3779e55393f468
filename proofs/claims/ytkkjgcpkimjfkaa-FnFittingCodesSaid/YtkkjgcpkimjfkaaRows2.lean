/- Slices of rows: equal ones; their marks, written and held. -/
import Derived.Test.YtkkjgcpkimjfkaaProg
import Derived.Test.YtkkjgcpkimjfkaaRows1
import Derived.StillTailTactics
import Derived.BigQuiet
namespace Go.Proofs.Ytkkjgcpkimjfkaa
open Go.RowKit

set_option maxHeartbeats 1000000 in
theorem eqIntSS_yes (va vb : Value) (rows : List (List Int)) (w : World) (ha : RdT w va rows) (hb : RdT w vb rows) :
    Calls Try.prog 21 #[va, vb] w fun e w' => e = .returned (.bool true) ∧ Below w.heap.size w w' := by
  obtain ⟨a, ca, rfl, hm, ha⟩ := ha
  obtain ⟨b, cb, rfl, _, hb⟩ := hb
  unfold maxLen at hm
  have HA := Lib.hid ha
  have HB := Lib.hid hb
  clear ha hb
  go_enter Try.func21, Try.ntmps21
  go_wp2_with fail
  go_loopw [5] (fun v wr => ∃ k : Nat, k ≤ rows.length ∧ v = .int .i64 k ∧ Below w.heap.size w wr) (fun v _ => rows.length - (intOf v).toNat)
  case atStart => exact ⟨0, by omega, rfl, Below.refl _ _⟩
  case round =>
    obtain ⟨k, hk, rfl, hbel⟩ := hrel
    by_cases hlt : k < rows.length
    · have hne : rows ≠ [] := by intro e; rw [e] at hlt; simp at hlt
      obtain ⟨g, off, rfl, hc⟩ := HA.out hne
      obtain ⟨g', off', rfl, hc'⟩ := HB.out hne
      obtain ⟨u, h1, hu⟩ := hc k hlt
      obtain ⟨u', h2, hu'⟩ := hc' k hlt
      have h1w := (hbel.cell (p := ⟨g, off + k, none⟩) (World.block_lt_of_cell? w _ h1)).trans h1
      have h2w := (hbel.cell (p := ⟨g', off' + k, none⟩) (World.block_lt_of_cell? w _ h2)).trans h2
      have K := Lib.hid (eqIntS_yes u u' (rows.getD k []) wr.drew ((hu.below hbel).below (Below.refl _ _).drew) ((hu'.below hbel).below (Below.refl _ _).drew))
      obtain ⟨x, cx, rfl, _, _⟩ := hu
      obtain ⟨y, cy, rfl, _, _⟩ := hu'
      have HBL := Lib.hid hbel
      generalize (rows.getD k []).length = lk at *
      clear h1 h2 hc hc' hne hbel
      have hi0 : (0 : Int) ≤ (k : Int) := by omega
      have hi1 : (k : Int) < (rows.length : Int) := by omega
      go_wp2_with fail
      refine wp_region_still_tail 8 (by kernel_rfl) (by kernel_rfl) ?_
      simp only [List.take_succ_cons, List.take_zero, List.drop_succ_cons, List.drop_zero]
      change wpStill _ _ (World.drew _) _ _ _
      repeat still_step
      refine wpStill_nil ?_
      change wpList _ _ _ _ _ (World.drew _)
      go_wp2_with fail
      refine K.out.mono ?_
      rintro e w1 ⟨rfl, hb1⟩
      have HB1 := Lib.hid hb1
      clear hb1 K
      go_wp2_with fail
      go_roundw
      case rel => exact ⟨k + 1, by omega, by go_num, HBL.out.trans ((Below.refl _ _).drew.trans (HB1.out.mono HBL.out.size))⟩
      case measure => simp [intOf]; omega
    · clear HA HB
      go_wp2_with fail
      go_ret
      exact ⟨rfl, hbel⟩
set_option maxHeartbeats 1000000 in
theorem sameRows_yes (va vb : Value) (rows : List (List Int)) (w : World) (ha : RdT w va rows) (hb : RdT w vb rows) :
    Calls Try.prog 37 #[va, vb] w fun e w' => e = .returned (.bool true) ∧ Below w.heap.size w w' := by
  obtain ⟨a, ca, rfl, hm, ha⟩ := ha
  obtain ⟨b, cb, rfl, _, hb⟩ := hb
  unfold maxLen at hm
  have HA := Lib.hid ha
  have HB := Lib.hid hb
  clear ha hb
  go_enter Try.func37, Try.ntmps37
  go_wp2_with fail
  go_loopw [5] (fun v wr => ∃ k : Nat, k ≤ rows.length ∧ v = .int .i64 k ∧ Below w.heap.size w wr) (fun v _ => rows.length - (intOf v).toNat)
  case atStart => exact ⟨0, by omega, rfl, Below.refl _ _⟩
  case round =>
    obtain ⟨k, hk, rfl, hbel⟩ := hrel
    by_cases hlt : k < rows.length
    · have hne : rows ≠ [] := by intro e; rw [e] at hlt; simp at hlt
      obtain ⟨g, off, rfl, hc⟩ := HA.out hne
      obtain ⟨g', off', rfl, hc'⟩ := HB.out hne
      obtain ⟨u, h1, hu⟩ := hc k hlt
      obtain ⟨u', h2, hu'⟩ := hc' k hlt
      have h1w := (hbel.cell (p := ⟨g, off + k, none⟩) (World.block_lt_of_cell? w _ h1)).trans h1
      have h2w := (hbel.cell (p := ⟨g', off' + k, none⟩) (World.block_lt_of_cell? w _ h2)).trans h2
      have K := Lib.hid (sameInts_yes u u' (rows.getD k []) wr.drew ((hu.below hbel).below (Below.refl _ _).drew) ((hu'.below hbel).below (Below.refl _ _).drew))
      obtain ⟨x, cx, rfl, _, _⟩ := hu
      obtain ⟨y, cy, rfl, _, _⟩ := hu'
      have HBL := Lib.hid hbel
      generalize (rows.getD k []).length = lk at *
      clear h1 h2 hc hc' hne hbel
      have hi0 : (0 : Int) ≤ (k : Int) := by omega
      have hi1 : (k : Int) < (rows.length : Int) := by omega
      go_wp2_with fail
      refine wp_region_still_tail 8 (by kernel_rfl) (by kernel_rfl) ?_
      simp only [List.take_succ_cons, List.take_zero, List.drop_succ_cons, List.drop_zero]
      change wpStill _ _ (World.drew _) _ _ _
      repeat still_step
      refine wpStill_nil ?_
      change wpList _ _ _ _ _ (World.drew _)
      go_wp2_with fail
      refine K.out.mono ?_
      rintro e w1 ⟨rfl, hb1⟩
      have HB1 := Lib.hid hb1
      clear hb1 K
      go_wp2_with fail
      go_roundw
      case rel => exact ⟨k + 1, by omega, by go_num, HBL.out.trans ((Below.refl _ _).drew.trans (HB1.out.mono HBL.out.size))⟩
      case measure => simp [intOf]; omega
    · clear HA HB
      go_wp2_with fail
      go_ret
      exact ⟨rfl, hbel⟩
/-- the rows hold the marks from k on, p in each -/
def Mk (k : Int) (p : Nat) (rows : List (List Int)) (n : Nat) : Prop := rows.length = n ∧ ∀ j, j < n → rows.getD j [] = marks (k + ((j * p : Nat) : Int)) p

set_option maxHeartbeats 1000000 in
theorem heldIntSS_yes (v : Value) (k : Int) (p n : Nat) (rows : List (List Int)) (w : World) (h : RdT w v rows) (hM : Mk k p rows n) (hk : 0 ≤ k) (hk2 : k ≤ 1000) (hn : n ≤ 1000) (hp : p ≤ 1000) :
    Calls Try.prog 23 #[v, .int .i64 k] w fun e w' => e = .returned (.int .i64 (k + ((n * p : Nat) : Int))) ∧ Below w.heap.size w w' := by
  obtain ⟨a, ca, rfl, hm, ha⟩ := h
  obtain ⟨hl, hM⟩ := hM
  have hne : n ≠ 0 → rows ≠ [] := fun h0 e => h0 (by rw [e] at hl; exact hl.symm)
  rw [hl] at hm ha ⊢
  have HA := Lib.hid ha
  have HM := Lib.hid hM
  have HN := Lib.hid hne
  unfold maxLen at hm
  clear ha hM hl hne
  go_enter Try.func23, Try.ntmps23
  go_wp2_with fail
  go_loopw [1, 5] (fun q v wr => ∃ i : Nat, i ≤ n ∧ v = .int .i64 i ∧ q = .int .i64 (k + ((i * p : Nat) : Int)) ∧ Below w.heap.size w wr) (fun _ v _ => n - (intOf v).toNat)
  case atStart => exact ⟨0, by omega, rfl, by simp, Below.refl _ _⟩
  case round =>
    obtain ⟨i, hi, rfl, rfl, hbel⟩ := hrel
    have hip : i * p ≤ 1000 * 1000 := Nat.mul_le_mul (by omega) hp
    have HS : Hid ((((i + 1) * p : Nat) : Int) = ((i * p : Nat) : Int) + (p : Int)) := by show _ = _; rw [Nat.succ_mul]; simp
    by_cases hlt : i < n
    · obtain ⟨g, off, rfl, hc⟩ := HA.out (HN.out (by omega))
      obtain ⟨u, h1, hu⟩ := hc i hlt
      rw [HM.out i hlt] at hu
      have h1w := (hbel.cell (p := ⟨g, off + i, none⟩) (World.block_lt_of_cell? w _ h1)).trans h1
      generalize i * p = q at *
      have K := Lib.hid (heldIntS_yes u (k + (q : Int)) p wr (hu.below hbel) (by omega) (by omega))
      obtain ⟨x, cx, rfl, _, _⟩ := hu
      generalize (marks (k + (q : Int)) p).length = lk at *
      have HBL := Lib.hid hbel
      clear h1 hc hbel
      have hi0 : (0 : Int) ≤ (i : Int) := by omega
      have hi1 : (i : Int) < (n : Int) := by omega
      go_wp2_with fail
      refine K.out.mono ?_
      rintro e w1 ⟨rfl, hb1⟩
      have HB1 := Lib.hid hb1
      clear hb1 K
      go_wp2_with fail
      go_roundw
      case rel => exact ⟨i + 1, by omega, by go_num, by rw [HS.out]; go_num, HBL.out.trans (HB1.out.mono HBL.out.size)⟩
      case measure => simp [intOf]; omega
    · have hin : i = n := by omega
      have HI := Lib.hid hin
      have HBL := Lib.hid hbel
      clear hin HA HS hbel
      go_wp2_with fail
      go_ret
      exact ⟨ret_int (by rw [HI.out]), HBL.out⟩
theorem getD_set {α : Type} (l : List α) (j : Nat) (r d : α) (h : j < l.length) (i : Nat) : (l.set j r).getD i d = if i = j then r else l.getD i d := by
  rw [List.getD_eq_getElem?_getD, List.getD_eq_getElem?_getD, List.getElem?_set]
  by_cases e : j = i
  · rw [if_pos e, if_pos e.symm, if_pos h]; rfl
  · rw [if_neg e, if_neg (fun x => e x.symm)]
theorem below_grown_from {w w1 w2 : World} {base : Nat} {row : Option Nat} (b : Below base w w1) (hb : base ≤ w1.heap.size) (g : w1.grownBy w2 row) (hr : ∀ c, row = some c → base ≤ c) : Below base w w2 :=
  b.grown g (by omega) hr

set_option maxHeartbeats 2000000 in
theorem markIntSS_any (v : Value) (us : List Value) (rows : List (List Int)) (k : Int) (p n base : Nat) (w : World) (h : OwR w base v us rows) (hl : rows.length = n) (hp : ∀ j, j < n → (rows.getD j []).length = p) (hk : 0 ≤ k) (hk2 : k ≤ 1000) (hn : n ≤ 1000) (hp2 : p ≤ 1000) (hb : base ≤ w.heap.size) :
    Calls Try.prog 22 #[v, .int .i64 k] w fun e w' => e = .returned (.int .i64 (k + ((n * p : Nat) : Int))) ∧ (∃ rows', OwR w' base v us rows' ∧ Mk k p rows' n) ∧ Below base w w' := by
  obtain ⟨a, ca, rfl, hm, ha⟩ := h.rd
  rw [hl] at ha hm ⊢
  have HH := Lib.hid h
  have HL := Lib.hid hl
  have HP := Lib.hid hp
  unfold maxLen at hm
  rw [hl] at HH
  clear h hl hp ha
  go_enter Try.func22, Try.ntmps22
  go_wp2_with fail
  go_loopw [1, 5] (fun q v wr => ∃ i : Nat, i ≤ n ∧ v = .int .i64 i ∧ q = .int .i64 (k + ((i * p : Nat) : Int)) ∧ (∃ rw', OwR wr base (.slice a n ca) us rw' ∧ rw'.length = n ∧ ∀ j, j < n → rw'.getD j [] = if j < i then marks (k + ((j * p : Nat) : Int)) p else rows.getD j []) ∧ Below base w wr) (fun _ v _ => n - (intOf v).toNat)
  case atStart => exact ⟨0, by omega, rfl, by simp, ⟨rows, HH.out, HL.out, fun j _ => by simp⟩, Below.refl _ _⟩
  case round =>
    obtain ⟨i, hi, rfl, rfl, ⟨rw', hR, hlr, hval⟩, hbel⟩ := hrel
    have hip : i * p ≤ 1000 * 1000 := Nat.mul_le_mul (by omega) hp2
    have HS : Hid ((((i + 1) * p : Nat) : Int) = ((i * p : Nat) : Int) + (p : Int)) := by show _ = _; rw [Nat.succ_mul]; simp
    have HR := Lib.hid hR
    have HLR := Lib.hid hlr
    have HV := Lib.hid hval
    have HBL := Lib.hid hbel
    clear hR hlr hval hbel
    by_cases hlt : i < n
    · have hul : us.length = n := HR.out.len.trans HLR.out
      have hown := HR.out.own
      rw [hul] at hown
      obtain ⟨g, cap, ev, hbg, _⟩ := hown.form (by omega)
      obtain ⟨rfl, rfl⟩ : a = some ⟨g, 0, none⟩ ∧ ca = cap := by injection ev with e1 _ e3; exact ⟨e1, e3⟩
      have hci := hown.cellAt i (by omega)
      rw [vals_getD us i (by omega)] at hci
      have ho := HR.out.row i (by rw [HLR.out]; exact hlt)
      have HBO : Hid (∀ c, blockOf (us.getD i nilS) (rw'.getD i []) = some c → base ≤ c) := ho.block_ge
      have hri : (rw'.getD i []).length = p := by rw [HV.out i hlt, if_neg (by omega)]; exact HP.out i hlt


      obtain ⟨q, hq⟩ : ∃ q, q = i * p := ⟨_, rfl⟩
      have HQ : Hid (marks (k + (q : Int)) p = marks (k + ((i * p : Nat) : Int)) p) := by show _ = _; rw [hq]
      rw [← hq] at hip HS
      rw [← hq]
      clear hq
      have K := Lib.hid (markIntS_any (us.getD i nilS) (k + (q : Int)) (rw'.getD i []) base wr ho (by omega) (by omega))
      rw [hri] at K
      obtain ⟨x, cx, hux, _, _⟩ := ho
      rw [hux] at hci
      have HU := Lib.hid hux
      have HRL : Hid (p = (rw'.getD i []).length) := hri.symm
      rw [hux] at K
      rw [hri] at hci HU K
      clear hown hul ev hux hri
      have hi0 : (0 : Int) ≤ (i : Int) := by omega
      have hi1 : (i : Int) < (n : Int) := by omega
      go_wp2_with fail
      refine K.out.mono ?_
      rintro e w1 ⟨rfl, o1, g1⟩
      have HO1 := Lib.hid o1
      have HG1 := Lib.hid g1
      clear o1 g1 K
      go_wp2_with fail
      go_roundw
      case rel =>
        have hset := HR.out.set (w' := w1) (r := marks (k + (q : Int)) p) i (by rw [HLR.out]; exact hlt) (by rw [HU.out]; exact HG1.out) (by rw [HU.out]; exact HO1.out) (by rw [marks_length]; exact HRL.out)
        refine ⟨i + 1, by omega, by go_num, by rw [HS.out]; go_num, ⟨_, hset, by rw [List.length_set]; exact HLR.out, fun j hj => ?_⟩, ?_⟩
        · rw [getD_set _ _ _ _ (by rw [HLR.out]; exact hlt)]
          by_cases e : j = i
          · subst e; rw [if_pos rfl, if_pos (by omega)]; exact HQ.out
          · rw [if_neg e, HV.out j hj]
            by_cases l : j < i
            · rw [if_pos l, if_pos (by omega)]
            · rw [if_neg l, if_neg (by omega)]
        · exact HBL.out.grown HG1.out (by have := HBL.out.size; omega) (fun c hc => HBO.out c (by rw [HU.out]; exact hc))
      case measure => simp [intOf]; omega
    · have hin : i = n := by omega
      have HI := Lib.hid hin
      clear hin HS
      go_wp2_with fail
      go_ret
      refine ⟨ret_int (by rw [HI.out]), ⟨rw', HR.out, HLR.out, fun j hj => ?_⟩, HBL.out⟩
      rw [HV.out j hj, if_pos (by rw [HI.out]; exact hj)]
end Go.Proofs.Ytkkjgcpkimjfkaa
