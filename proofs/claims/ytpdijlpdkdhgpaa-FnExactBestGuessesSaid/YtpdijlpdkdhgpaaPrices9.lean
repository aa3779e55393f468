/- spec.l3Table. -/
import Derived.Test.YtpdijlpdkdhgpaaProg
import Derived.Test.YtpdijlpdkdhgpaaPrices8
namespace Go.Proofs.Ytpdijlpdkdhgpaa
open Go.RowKit

structure TabF (w : World) (g n : Nat) (ρ : Nat → Nat) (T : Nat → Nat → Int) : Prop where
  cellg : ∀ i, i ≤ n → w.cell? ⟨g, i, none⟩ = some (sl n (ρ i))
  row : ∀ i, i ≤ n → RowAt w (ρ i) (n + 1) (T i)
  inj : ∀ i j, i ≤ n → j ≤ n → ρ i = ρ j → i = j
  off : ∀ i, i ≤ n → ρ i ≠ g
theorem TabF.set {w : World} {g n : Nat} {ρ : Nat → Nat} {T : Nat → Nat → Int} (h : TabF w g n ρ T) (i j : Nat) (hi : i ≤ n) (v : Int) :
    TabF (w.setCell ⟨ρ i, j, none⟩ (.int .i64 v)) g n ρ (fun a b => if a = i ∧ b = j then v else T a b) := by
  refine ⟨fun a ha => ?_, fun a ha => ?_, h.inj, h.off⟩
  · rw [World.cell?_setCell_other _ _ _ _ (fun e => h.off i hi (by injection e))]
    exact h.cellg a ha
  · by_cases e : a = i
    · subst e
      exact ((h.row a ha).set j v).congr (fun b _ => by simp)
    · exact ((h.row a ha).other (fun e2 => e (h.inj a i ha hi e2)) j _).congr (fun b _ => by simp [e])
theorem TabF.other {w : World} {g n : Nat} {ρ : Nat → Nat} {T : Nat → Nat → Int} (h : TabF w g n ρ T) (B j : Nat) (v : Value) (hg : B ≠ g) (hr : ∀ i, i ≤ n → ρ i ≠ B) : TabF (w.setCell ⟨B, j, none⟩ v) g n ρ T := by
  refine ⟨fun a ha => ?_, fun a ha => (h.row a ha).other (hr a ha) j v, h.inj, h.off⟩
  rw [World.cell?_setCell_other _ _ _ _ (fun e => hg (by injection e))]
  exact h.cellg a ha
theorem TabF.congr {w : World} {g n : Nat} {ρ : Nat → Nat} {T U : Nat → Nat → Int} (h : TabF w g n ρ T) (e : ∀ i j, i ≤ n → j ≤ n → T i j = U i j) : TabF w g n ρ U :=
  ⟨h.cellg, fun a ha => (h.row a ha).congr (fun b hb => e a b ha (by omega)), h.inj, h.off⟩
theorem TabF.drewN {w : World} {g n : Nat} {ρ : Nat → Nat} {T : Nat → Nat → Int} (h : TabF w g n ρ T) (m : Nat) : TabF (w.drewN m) g n ρ T := by
  have hb : Below w.heap.size w (w.drewN m) := below_drewN (Below.refl _ _) m
  exact ⟨fun a ha => (hb.cell (p := ⟨g, a, none⟩) (World.block_lt_of_cell? w _ (h.cellg a ha))).trans (h.cellg a ha), fun a ha => (h.row a ha).below hb (World.block_lt_of_cell? w _ ((h.row a ha) 0 (by omega)).1), h.inj, h.off⟩
theorem TabF.of {w : World} {base n : Nat} {v : Value} {rows : List Nat} (h : TabG w base n v rows) (hl : rows.length = n + 1) :
    ∃ g cap, v = .slice (some ⟨g, 0, none⟩) (n + 1) cap ∧ base ≤ g ∧ (∀ i, i ≤ n → base ≤ rows.getD i 0) ∧ TabF w g n (fun i => rows.getD i 0) (fun _ _ => 0) := by
  have hown := h.own
  rw [hl] at hown
  obtain ⟨g, cap, rfl, hb, _⟩ := hown.form (by omega)
  have hm : ∀ i, i ≤ n → rows.getD i 0 ∈ rows := fun i hi => by
    rw [List.getD_eq_getElem?_getD, List.getElem?_eq_getElem (by omega)]; exact List.getElem_mem _
  refine ⟨g, cap, rfl, hb, fun i hi => (h.apart _ (hm i hi)).1, fun i hi => ?_, fun i hi => h.row _ (hm i hi), fun i j hi hj e => ?_, fun i hi e => ?_⟩
  · rw [hown.cellAt i (by omega), List.getElem?_map, List.getD_eq_getElem?_getD, List.getElem?_eq_getElem (by omega)]
    rfl
  · rw [List.getD_eq_getElem?_getD, List.getD_eq_getElem?_getD, List.getElem?_eq_getElem (show i < rows.length by omega), List.getElem?_eq_getElem (show j < rows.length by omega)] at e
    have hp := List.pairwise_iff_getElem.1 h.nodup
    rcases Nat.lt_trichotomy i j with hij | hij | hij
    · exact absurd e (hp i j (by omega) (by omega) hij)
    · exact hij
    · exact absurd e.symm (hp j i (by omega) (by omega) hij)
  · exact (h.apart _ (hm i hi)).2.2 (by show some g = some _; rw [← e])

def StT (xs : List Int) (n L F : Nat) (TC TB : Nat → Nat → Int) : Prop :=
  (∀ i j, i ≤ j → j ≤ n → (j - i < L ∨ (j - i = L ∧ i < F)) → TC i j = Cx xs i j) ∧ ∀ i j, i + 2 ≤ j → j ≤ n → (j - i < L ∨ (j - i = L ∧ i < F)) → TB i j = (Fx xs i j : Nat)

structure Two (w : World) (base gC gB n : Nat) (ρC ρB : Nat → Nat) (TC TB : Nat → Nat → Int) : Prop where
  tC : TabF w gC n ρC TC
  tB : TabF w gB n ρB TB
  a1 : gC ≠ gB
  a2 : ∀ i, i ≤ n → ρC i ≠ gB
  a3 : ∀ i, i ≤ n → ρB i ≠ gC
  a4 : ∀ i j, i ≤ n → j ≤ n → ρC i ≠ ρB j
  lC : ∀ i, i ≤ n → base ≤ ρC i
  lB : ∀ i, i ≤ n → base ≤ ρB i
theorem Two.setC {w : World} {base gC gB n : Nat} {ρC ρB : Nat → Nat} {TC TB : Nat → Nat → Int} (h : Two w base gC gB n ρC ρB TC TB) (i j : Nat) (hi : i ≤ n) (v : Int) :
    Two (w.setCell ⟨ρC i, j, none⟩ (.int .i64 v)) base gC gB n ρC ρB (fun a b => if a = i ∧ b = j then v else TC a b) TB :=
  ⟨h.tC.set i j hi v, h.tB.other _ j _ (h.a2 i hi) (fun k hk e => h.a4 i k hi hk e.symm), h.a1, h.a2, h.a3, h.a4, h.lC, h.lB⟩
theorem Two.setB {w : World} {base gC gB n : Nat} {ρC ρB : Nat → Nat} {TC TB : Nat → Nat → Int} (h : Two w base gC gB n ρC ρB TC TB) (i j : Nat) (hi : i ≤ n) (v : Int) :
    Two (w.setCell ⟨ρB i, j, none⟩ (.int .i64 v)) base gC gB n ρC ρB TC (fun a b => if a = i ∧ b = j then v else TB a b) :=
  ⟨h.tC.other _ j _ (h.a3 i hi) (fun k hk => h.a4 k i hk hi), h.tB.set i j hi v, h.a1, h.a2, h.a3, h.a4, h.lC, h.lB⟩
theorem Two.drewN {w : World} {base gC gB n : Nat} {ρC ρB : Nat → Nat} {TC TB : Nat → Nat → Int} (h : Two w base gC gB n ρC ρB TC TB) (m : Nat) : Two (w.drewN m) base gC gB n ρC ρB TC TB :=
  ⟨h.tC.drewN m, h.tB.drewN m, h.a1, h.a2, h.a3, h.a4, h.lC, h.lB⟩
theorem StT.start (xs : List Int) (n : Nat) : StT xs n 2 0 (fun _ _ => 0) (fun _ _ => 0) :=
  ⟨fun i j _ _ h => by rw [Cx_short (by omega)], fun i j _ _ h => by omega⟩
theorem StT.next {xs : List Int} {n L F : Nat} {TC TB : Nat → Nat → Int} (h : StT xs n L F TC TB) (hF : n < F + L) : StT xs n (L + 1) 0 TC TB :=
  ⟨fun i j hij hjn hd => h.1 i j hij hjn (by omega), fun i j hij hjn hd => h.2 i j hij hjn (by omega)⟩
theorem StT.step {xs : List Int} {n L F : Nat} {TC TB TB' : Nat → Nat → Int} (h : StT xs n L F TC TB) (_hL : 2 ≤ L) (_hFL : F + L ≤ n) (hB : ∀ i j, i ≤ n → j ≤ n → ¬ (i = F ∧ j = F + L) → TB' i j = TB i j) (hb : TB' F (F + L) = (Fx xs F (F + L) : Nat)) (v : Int) (hv : v = Cx xs F (F + L)) :
    StT xs n L (F + 1) (fun a b => if a = F ∧ b = F + L then v else TC a b) TB' := by
  refine ⟨fun i j hij hjn hd => ?_, fun i j hij hjn hd => ?_⟩
  · by_cases e : i = F ∧ j = F + L
    · simp only [if_pos e]; rw [hv, e.1, e.2]
    · simp only [if_neg e]
      refine h.1 i j hij hjn ?_
      rcases hd with hd | ⟨hd, hi⟩
      · exact .inl hd
      · by_cases ei : i = F
        · exact absurd ⟨ei, by omega⟩ e
        · exact .inr ⟨hd, by omega⟩
  · by_cases e : i = F ∧ j = F + L
    · rw [e.1, e.2]; exact hb
    · rw [hB i j (by omega) hjn e]
      refine h.2 i j hij hjn ?_
      rcases hd with hd | ⟨hd, hi⟩
      · exact .inl hd
      · by_cases ei : i = F
        · exact absurd ⟨ei, by omega⟩ e
        · exact .inr ⟨hd, by omega⟩

def TbPost (xs : List Int) (n : Nat) (w : World) (e : Ending) (w' : World) : Prop :=
  ∃ (gC gB cC cB : Nat) (ρC ρB : Nat → Nat) (TC TB : Nat → Nat → Int), e = .returned (.tuple #[.slice (some ⟨gC, 0, none⟩) (n + 1) cC, .slice (some ⟨gB, 0, none⟩) (n + 1) cB]) ∧ TabF w' gC n ρC TC ∧ TabF w' gB n ρB TB ∧ StT xs n (n + 2) 0 TC TB ∧ Below w.heap.size w w'

set_option maxRecDepth 10000 in
set_option maxHeartbeats 4000000 in
theorem table_any (xs : List Int) (n : Nat) (va : Value) (w : World) (hn : xs.length = n) (hn9 : n ≤ 9) (hx : ∀ j, 0 ≤ xs.getD j 0 ∧ xs.getD j 0 ≤ 50) (hr : Rd w va xs) :
    Calls Try.prog 27 #[va] w (TbPost xs n w) := by
  have HR := Lib.hid hr
  obtain ⟨ao, ca, rfl, _, hrc⟩ := hr
  rw [hn] at HR ⊢
  rw [hn] at hrc
  obtain ⟨gx, ox, hao⟩ : ∃ gx ox, n ≠ 0 → ao = some ⟨gx, ox, none⟩ ∧ ∀ j, j < n → w.cell? ⟨gx, ox + j, none⟩ = some (.int .i64 (xs.getD j 0)) := by
    by_cases h0 : n = 0
    · exact ⟨0, 0, fun h => absurd h0 h⟩
    · obtain ⟨g, o, h1, h2⟩ := hrc (by intro e; rw [e] at hn; simp at hn; omega)
      exact ⟨g, o, fun _ => ⟨h1, h2⟩⟩
  have HAO := Lib.hid hao
  clear hrc hao
  obtain ⟨i0, hi, hz0, hz1, hz2⟩ := info_parts YtpdijlpdkdhgpaainfoInt
  obtain ⟨base, hB⟩ : ∃ base, base = w.heap.size := ⟨_, rfl⟩
  obtain ⟨w2, hw2⟩ : ∃ w2, w2 = (w.alloc (.cells #[] 22)).alloc (.cells #[] 22) := ⟨_, rfl⟩
  have hb2 : Below w.heap.size w w2 := by rw [hw2]; exact ((Below.refl _ _).alloc (Nat.le_refl _) _).alloc (by simp) _
  have hC2 : TabG w2 base n (.slice (some ⟨w.heap.size, 0, none⟩) 0 0) [] := by
    rw [hw2, hB]
    have h1 : (w.alloc (.cells #[] 22)).ownsRow w.heap.size 22 1 (.slice (some ⟨w.heap.size, 0, none⟩) 0 0) 0 [] := World.ownsRow_made w #[] 0 (Nat.le_refl _) (by simp [maxLen]) (by simp)
    exact ⟨h1.alloc _, by simp, by simp, by simp, w.heap.size, rfl, Nat.le_refl _, by rw [World.size_alloc, World.size_alloc]; omega⟩
  have hB2 : TabG w2 base n (.slice (some ⟨w.heap.size + 1, 0, none⟩) 0 0) [] := by
    rw [hw2, hB]
    have h1 : ((w.alloc (.cells #[] 22)).alloc (.cells #[] 22)).ownsRow w.heap.size 22 1 (.slice (some ⟨(w.alloc (.cells #[] 22)).heap.size, 0, none⟩) 0 0) 0 [] := World.ownsRow_made _ #[] 0 (by simp) (by simp [maxLen]) (by simp)
    rw [World.size_alloc] at h1
    exact ⟨h1, by simp, by simp, by simp, w.heap.size + 1, rfl, by omega, by simp⟩
  have hA2 : Apart (.slice (some ⟨w.heap.size, 0, none⟩) 0 0) (.slice (some ⟨w.heap.size + 1, 0, none⟩) 0 0) [] [] := ⟨by simp [Value.ownBlock], by simp, by simp, by simp⟩
  have HB := Lib.hid hB
  have HB2 := Lib.hid hb2
  have HC2 := Lib.hid hC2
  have HBB := Lib.hid hB2
  have HA2 := Lib.hid hA2
  clear hB hb2 hC2 hB2 hA2
  go_enter Try.func27, Try.ntmps27
  go_wp2_with fail
  rw [← hw2]
  clear hw2
  go_loopw [5, 6, 7] (fun vC vB vk wr => ∃ (k : Nat) (rC rB : List Nat), k ≤ n + 1 ∧ rC.length = k ∧ rB.length = k ∧ vk = .int .i64 k ∧ TabG wr base n vC rC ∧ TabG wr base n vB rB ∧ Apart vC vB rC rB ∧ Below base w wr) (fun _ _ vk _ => n + 1 - (intOf vk).toNat)
  case atStart => exact ⟨0, [], [], by omega, rfl, rfl, rfl, HC2.out, HBB.out, HA2.out, by rw [HB.out]; exact HB2.out⟩
  case round =>
    clear HC2 HBB HA2 HB2
    obtain ⟨k, rC, rB, hk, lC, lB, rfl, hC, hBt, hA, hb⟩ := hrel
    have hbase : base ≤ wr.heap.size := by rw [HB.out]; exact hb.size
    by_cases hlt : k ≤ n
    · have hlti : (k : Int) ≤ (n : Int) := by omega
      have HC := Lib.hid hC
      have HBt := Lib.hid hBt
      have HA := Lib.hid hA
      have Hb := Lib.hid hb
      clear hC hBt hA hb
      have nC : u5.ownBlock ≠ none := by obtain ⟨g, e, _⟩ := HC.out.blk; rw [e]; simp
      have nB : u6.ownBlock ≠ none := by obtain ⟨g, e, _⟩ := HBt.out.blk; rw [e]; simp
      go_wp2_with (first
        | (at_make; (refine wpList_make_full _ rfl _ _ 22 rfl base 3 i0 (.int .i64 0) 1 Try.underlying22 hi hz0 hz1 .i64 .i64 _ _ (n + 1) rfl rfl (by omega) (by omega) (by rw [hz2]; omega) (by unfold maxLen; omega) hbase ?_); intro w3 hown3 hg3
           have R3 := Lib.hid (RowAt.made hown3)
           have hlt3 := (hown3.lt _ rfl).2
           have ho3 := (HC.out.kept hg3 nC (by simp)).own
           have hs3 : base ≤ w3.heap.size := Nat.le_trans hbase hg3.size
           have HG3 := Lib.hid hg3
           have E3 := Lib.hid (Hb.out.grown hg3 hbase (by simp))
           clear hown3 hg3)
        | (at_builtin; (refine wpList_append_row _ rfl _ _ rfl base n wr.heap.size u5 rC ho3 rfl rfl (by omega) hs3 ?_); intro vC' w4 hown4 hg4 hv4
           have C4 := Lib.hid (HC.out.push hbase HG3.out (Nat.le_refl _) hlt3 R3.out hg4 hown4 hv4)
           have B4 := Lib.hid ((HBt.out.kept HG3.out nB (by simp)).kept hg4 (fun e => HA.out.1 e.symm) (fun r hr e => HA.out.2.2.1 r hr e.symm))
           have A4 := Lib.hid (HA.out.push HBt.out (Nat.le_refl _) HG3.out.size (by rcases hv4 with e | ⟨b, e, h1, _⟩ <;> first | exact .inl e | exact .inr ⟨b, e, h1⟩))
           have E4 := Lib.hid (E3.out.grown hg4 hs3 HC.out.blk_ge)
           have hs4 : base ≤ w4.heap.size := Nat.le_trans hs3 hg4.size
           clear ho3 hown4 hg4 hv4)
        | (at_make; (refine wpList_make_full _ rfl _ _ 22 rfl base 3 i0 (.int .i64 0) 1 Try.underlying22 hi hz0 hz1 .i64 .i64 _ _ (n + 1) rfl rfl (by omega) (by omega) (by rw [hz2]; omega) (by unfold maxLen; omega) hs4 ?_); intro w5 hown5 hg5
           have R5 := Lib.hid (RowAt.made hown5)
           have hlt5 := (hown5.lt _ rfl).2
           have ho5 := (B4.out.kept hg5 nB (by simp)).own
           have hs5 : base ≤ w5.heap.size := Nat.le_trans hs4 hg5.size
           have HG5 := Lib.hid hg5
           have E5 := Lib.hid (E4.out.grown hg5 hs4 (by simp))
           clear hown5 hg5)
        | (at_builtin; (refine wpList_append_row _ rfl _ _ rfl base n w4.heap.size u6 rB ho5 rfl rfl (by omega) hs5 ?_); intro vB' w6 hown6 hg6 hv6
           have B6 := Lib.hid (B4.out.push hs4 HG5.out (Nat.le_refl _) hlt5 R5.out hg6 hown6 hv6)
           have nC' : vC'.ownBlock ≠ none := by obtain ⟨g, e, _⟩ := C4.out.blk; rw [e]; simp
           have C6 := Lib.hid ((C4.out.kept HG5.out nC' (by simp)).kept hg6 A4.out.1 (fun r hr e => A4.out.2.1 r hr e.symm))
           have A6 := Lib.hid (A4.out.symm.push C4.out (Nat.le_refl _) HG5.out.size (by rcases hv6 with e | ⟨b, e, h1, _⟩ <;> first | exact .inl e | exact .inr ⟨b, e, h1⟩)).symm
           have E6 := Lib.hid (E5.out.grown hg6 hs5 B4.out.blk_ge)
           clear ho5 hown6 hg6 hv6))
      go_roundw
      case rel => exact ⟨k + 1, _, _, by omega, by rw [List.length_append, lC]; rfl, by rw [List.length_append, lB]; rfl, by go_num, C6.out, B6.out, A6.out, E6.out⟩
      case measure => simp [intOf]; omega
    · have hlti : ¬ (k : Int) ≤ (n : Int) := by omega
      obtain rfl : k = n + 1 := by omega
      obtain ⟨gC, cC, rfl, gC0, lC0, tC⟩ := TabF.of hC lC
      obtain ⟨gB, cB, rfl, gB0, lB0, tB⟩ := TabF.of hBt lB
      have mC : ∀ i, i ≤ n → rC.getD i 0 ∈ rC := fun i hi => by rw [List.getD_eq_getElem?_getD, List.getElem?_eq_getElem (by omega)]; exact List.getElem_mem _
      have mB : ∀ i, i ≤ n → rB.getD i 0 ∈ rB := fun i hi => by rw [List.getD_eq_getElem?_getD, List.getElem?_eq_getElem (by omega)]; exact List.getElem_mem _
      have a1 : gC ≠ gB := fun e => hA.1 (by simp [Value.ownBlock, e])
      have a2 : ∀ i, i ≤ n → rC.getD i 0 ≠ gB := fun i hi e => hA.2.1 _ (mC i hi) (by rw [e]; rfl)
      have a3 : ∀ i, i ≤ n → rB.getD i 0 ≠ gC := fun i hi e => hA.2.2.1 _ (mB i hi) (by rw [e]; rfl)
      have a4 : ∀ i j, i ≤ n → j ≤ n → rC.getD i 0 ≠ rB.getD j 0 := fun i j hi hj e => hA.2.2.2 _ (mC i hi) (by rw [e]; exact mB j hj)
      obtain ⟨ρC, ρB, h2⟩ : ∃ ρC ρB, Two wr base gC gB n ρC ρB (fun _ _ => 0) (fun _ _ => 0) := ⟨_, _, tC, tB, a1, a2, a3, a4, lC0, lB0⟩
      have H2 := Lib.hid h2
      have HB0 := Lib.hid hb
      have HR0 := Lib.hid (HR.out.below (w' := wr) (by rw [← HB.out]; exact hb))
      clear tC tB a1 a2 a3 a4 lC0 lB0 mC mB h2 hb hA hC hBt lC lB hbase hi hz0 hz1 hz2 gC0 gB0
      go_wp2_with fail
      go_loopw [8] (fun v wq => ∃ (L : Nat) (TC TB : Nat → Nat → Int), 2 ≤ L ∧ L ≤ n + 2 ∧ v = .int .i64 L ∧ StT xs n L 0 TC TB ∧ Two wq base gC gB n ρC ρB TC TB ∧ Below base w wq) (fun v _ => n + 2 - (intOf v).toNat)
      case atStart => exact ⟨2, _, _, by omega, by omega, rfl, StT.start xs n, H2.out, HB0.out⟩
      case round =>
        clear H2 HB0
        obtain ⟨L, TC, TB, hL2, hLn, rfl, hs, ht, hb⟩ := hrel
        by_cases hlt : L ≤ n
        · have hlti2 : (L : Int) ≤ (n : Int) := by omega
          go_wp2_with fail
          go_loopw [9] (fun v wq => ∃ (F : Nat) (TC TB : Nat → Nat → Int), F ≤ n + 1 ∧ v = .int .i64 F ∧ StT xs n L F TC TB ∧ Two wq base gC gB n ρC ρB TC TB ∧ Below base w wq) (fun v _ => n + 1 - (intOf v).toNat)
          case atStart => exact ⟨0, TC, TB, by omega, rfl, hs, ht, hb⟩
          case round =>
            clear hs ht hb
            obtain ⟨F, TC, TB, hFn, rfl, hs, ht, hb⟩ := hrel
            obtain ⟨b, hbL⟩ : ∃ b, b = F + L := ⟨_, rfl⟩
            have hbb : (F : Int) + (L : Int) = (b : Int) := by omega
            by_cases hlt2 : b ≤ n
            · have hbn : (b : Int) ≤ (n : Int) := by omega
              obtain ⟨rfl, hX⟩ := HAO.out (by omega)
              have HX := Lib.hid hX
              clear hX
              have HS := Lib.hid hs
              have HT := Lib.hid ht
              have HBw := Lib.hid hb
              have HL := Lib.hid hbL
              clear hs ht hb hbL
              go_wp2_with fail
              go_loopw [11, 12] (fun vl vk wq => ∃ (k : Nat) (TB' : Nat → Nat → Int), k ≤ L ∧ vl = .int .i64 (scn xs (Cx xs) F b k).1 ∧ vk = .int .i64 ((F + k : Nat) : Int) ∧ Two wq base gC gB n ρC ρB TC TB' ∧ (∀ i j, i ≤ n → j ≤ n → ¬ (i = F ∧ j = b) → TB' i j = TB i j) ∧ (1 ≤ k → TB' F b = ((scn xs (Cx xs) F b k).2 : Nat)) ∧ Below base w wq) (fun _ vk _ => F + L - (intOf vk).toNat)
              case atStart => exact ⟨0, TB, by omega, rfl, rfl, HT.out, fun _ _ _ _ _ => rfl, fun h => by omega, HBw.out⟩
              case round =>
                clear HT HBw
                obtain ⟨k, TB', hk, rfl, rfl, ht, hoth, hown, hb⟩ := hrel
                have hbL := HL.out
                have hsb := scn_bd (xs := xs) (c := Cx xs) (a := F) (b := b) (M := 500) hx (fun i j => (Cx_bd hx (j - i) i j (Nat.le_refl _)).1) (fun i j _ _ hij => by have := (Cx_bd hx (j - i) i j (Nat.le_refl _)).2; omega) k (by omega)
                have hs1 : -1 ≤ (scn xs (Cx xs) F b k).1 ∧ (scn xs (Cx xs) F b k).1 ≤ 550 := by
                  rcases hsb with ⟨_, h⟩ | h
                  · rw [h]; simp
                  · omega
                clear hsb
                by_cases hkL : k < L
                · obtain ⟨q, hq⟩ : ∃ q, q = F + k := ⟨_, rfl⟩
                  have hcF : wr.cell? ⟨gC, F, none⟩ = some (.slice (some ⟨ρC F, 0, none⟩) (n + 1) (n + 1)) := ht.tC.cellg F (by omega)
                  have hcq : wr.cell? ⟨gC, q + 1, none⟩ = some (.slice (some ⟨ρC (q + 1), 0, none⟩) (n + 1) (n + 1)) := ht.tC.cellg (q + 1) (by omega)
                  have hv1 : wr.cell? ⟨ρC F, q, none⟩ = some (.int .i64 (Cx xs F q)) := by
                    rw [← HS.out.1 F q (by omega) (by omega) (.inl (by omega))]; exact (ht.tC.row F (by omega) q (by omega)).1
                  have hv2 : wr.cell? ⟨ρC (q + 1), b, none⟩ = some (.int .i64 (Cx xs (q + 1) b)) := by
                    rw [← HS.out.1 (q + 1) b (by omega) (by omega) (.inl (by omega))]; exact (ht.tC.row (q + 1) (by omega) b (by omega)).1
                  have hcB : wr.cell? ⟨gB, F, none⟩ = some (.slice (some ⟨ρB F, 0, none⟩) (n + 1) (n + 1)) := ht.tB.cellg F (by omega)
                  have hfB := (ht.tB.row F (by omega) b (by omega)).2
                  have hvB := (ht.tB.row F (by omega) b (by omega)).1
                  have hcx : wr.cell? ⟨gx, ox + q, none⟩ = some (.int .i64 (xs.getD q 0)) := (hb.cell (p := ⟨gx, ox + q, none⟩) (by rw [HB.out]; exact World.block_lt_of_cell? w _ (HX.out q (by omega)))).trans (HX.out q (by omega))
                  have hstep : scn xs (Cx xs) F b (k + 1) = if (scn xs (Cx xs) F b k).1 < 0 ∨ xs.getD q 0 + max (Cx xs F q) (Cx xs (q + 1) b) < (scn xs (Cx xs) F b k).1 then (xs.getD q 0 + max (Cx xs F q) (Cx xs (q + 1) b), q) else scn xs (Cx xs) F b k := by rw [scn, ← hq]
                  have hx1 := hx q
                  have hx2 := Cx_bd hx (q - F) F q (Nat.le_refl _)
                  have hx3 := Cx_bd hx (b - (q + 1)) (q + 1) b (Nat.le_refl _)
                  have hx4 : Cx xs F q ≤ 1000 := by omega
                  have hx5 : Cx xs (q + 1) b ≤ 1000 := by omega
                  have hx6 : 0 ≤ Cx xs F q := hx2.1
                  have hx7 : 0 ≤ Cx xs (q + 1) b := hx3.1
                  have hqq : (F : Int) + (k : Int) = (q : Int) := by omega
                  have hqb : (q : Int) < (b : Int) := by omega
                  have i1 : (0 : Int) ≤ (q : Int) := by omega
                  have i2 : (q : Int) < (n : Int) := by omega
                  have i3 : (0 : Int) ≤ (F : Int) := by omega
                  have i4 : (F : Int) < (n : Int) + 1 := by omega
                  have i5 : (q : Int) + 1 < (n : Int) + 1 := by omega
                  have i6 : (q : Int) < (n : Int) + 1 := by omega
                  have i7 : (b : Int) < (n : Int) + 1 := by omega
                  have i8 : (0 : Int) ≤ (b : Int) := by omega
                  have HT := Lib.hid ht
                  have HOT := Lib.hid hoth
                  have HOW := Lib.hid hown
                  have HBw := Lib.hid hb
                  have HQ := Lib.hid hq
                  have HST := Lib.hid hstep
                  obtain ⟨c1, hc1⟩ : ∃ c, c = Cx xs F q := ⟨_, rfl⟩
                  obtain ⟨c2, hc2⟩ : ∃ c, c = Cx xs (q + 1) b := ⟨_, rfl⟩
                  obtain ⟨x, hx0⟩ : ∃ x, x = xs.getD q 0 := ⟨_, rfl⟩
                  rw [← hc1] at hv1 hx2 hx4 hx6 HST
                  rw [← hc2] at hv2 hx3 hx5 hx7 HST
                  rw [← hx0] at hcx hx1 HST
                  clear ht hoth hown hb hq hstep hc1 hc2 hx0 hx2 hx3 hbL
                  have HK1 : Hid (¬ (scn xs (Cx xs) F b k).1 < 0 → 1 ≤ k) := fun h => by
                    cases k with
                    | zero => exact absurd (show (scn xs (Cx xs) F b 0).1 < 0 by rw [scn]; simp) h
                    | succ k => omega
                  obtain ⟨s, hs⟩ : ∃ s, s = scn xs (Cx xs) F b k := ⟨_, rfl⟩
                  rw [← hs] at hs1 HST HOW HK1 ⊢
                  obtain ⟨s1, s2⟩ := s
                  simp only at hs1 HST HOW HK1 ⊢
                  obtain ⟨c, hcm, hcc⟩ : ∃ c, max c1 c2 = c ∧ ((c2 < c1 ∧ c = c1) ∨ (c1 < c2 ∧ c = c2) ∨ (c1 = c2 ∧ c = c1)) := ⟨_, rfl, by omega⟩
                  rw [hcm] at HST
                  have HQ1 : Hid ((s1 < 0 ∨ x + c < s1) → scn xs (Cx xs) F b (k + 1) = (x + c, q)) := fun h => by rw [HST.out, if_pos h]
                  have HQ2 : Hid (¬ (s1 < 0 ∨ x + c < s1) → scn xs (Cx xs) F b (k + 1) = (s1, s2)) := fun h => by rw [HST.out, if_neg h]
                  have hcb : 0 ≤ c ∧ c ≤ 1000 := by omega
                  clear hs hcm hx6 hx7
                  rcases hcc with ⟨hcc, rfl⟩ | ⟨hcc, rfl⟩ | ⟨rfl, rfl⟩
                  · go_wp2_with fail
                    go_quiet (fail)
                    generalize hw0 : wr.drewN _ = w3
                    have ht3 : Two w3 base gC gB n ρC ρB TC TB' := by rw [← hw0]; exact HT.out.drewN _
                    have hb3 : Below base w w3 := by rw [← hw0]; exact below_drewN HBw.out _
                    have hcB3 : w3.cell? ⟨gB, F, none⟩ = some (.slice (some ⟨ρB F, 0, none⟩) (n + 1) (n + 1)) := ht3.tB.cellg F (by omega)
                    have hfB3 := (ht3.tB.row F (by omega) b (by omega)).2
                    have hvB3 := (ht3.tB.row F (by omega) b (by omega)).1
                    have HT4 := Lib.hid (ht3.setB F b (by omega) (q : Int))
                    have HB4 := Lib.hid (hb3.setCell (ht3.lB F (by omega)) (p := ⟨ρB F, b, none⟩) (.int .i64 (q : Int)))
                    have HT3 := Lib.hid ht3
                    have HB3 := Lib.hid hb3
                    clear hw0 ht3 hb3 hcF hcq hv1 hv2 hcx
                    by_cases hup : s1 < 0 ∨ x + c < s1
                    · have HUP := Lib.hid (HQ1.out hup)
                      by_cases h0 : s1 < 0
                      · clear hup
                        go_wp2_with fail
                        go_roundw
                        case rel =>
                          refine ⟨k + 1, _, by omega, by rw [HUP.out], ?_, HT4.out, fun i j hi hj hne => ?_, fun _ => ?_, HB4.out⟩
                          · rw [show F + (k + 1) = q + 1 by have := HQ.out; omega]; rfl
                          · simp only [if_neg hne]; exact HOT.out i j hi hj hne
                          · rw [HUP.out]; simp
                        case measure => simp [intOf]; have := HQ.out; omega
                      · have h1 : x + c < s1 := by omega
                        clear hup
                        go_wp2_with fail
                        go_roundw
                        case rel =>
                          refine ⟨k + 1, _, by omega, by rw [HUP.out], ?_, HT4.out, fun i j hi hj hne => ?_, fun _ => ?_, HB4.out⟩
                          · rw [show F + (k + 1) = q + 1 by have := HQ.out; omega]; rfl
                          · simp only [if_neg hne]; exact HOT.out i j hi hj hne
                          · rw [HUP.out]; simp
                        case measure => simp [intOf]; have := HQ.out; omega
                    · have HUP := Lib.hid (HQ2.out hup)
                      have h0 : ¬ s1 < 0 := by omega
                      have h1 : ¬ x + c < s1 := by omega
                      have hk1 := HK1.out (by omega)
                      clear hup
                      go_wp2_with fail
                      go_roundw
                      case rel =>
                        refine ⟨k + 1, _, by omega, by rw [HUP.out], ?_, HT3.out, HOT.out, fun _ => ?_, HB3.out⟩
                        · rw [show F + (k + 1) = q + 1 by have := HQ.out; omega]; rfl
                        · rw [HUP.out]; exact HOW.out hk1
                      case measure => simp [intOf]; have := HQ.out; omega
                  · go_wp2_with fail
                    go_quiet (fail)
                    generalize hw0 : wr.drewN _ = w3
                    have ht3 : Two w3 base gC gB n ρC ρB TC TB' := by rw [← hw0]; exact HT.out.drewN _
                    have hb3 : Below base w w3 := by rw [← hw0]; exact below_drewN HBw.out _
                    have hcB3 : w3.cell? ⟨gB, F, none⟩ = some (.slice (some ⟨ρB F, 0, none⟩) (n + 1) (n + 1)) := ht3.tB.cellg F (by omega)
                    have hfB3 := (ht3.tB.row F (by omega) b (by omega)).2
                    have hvB3 := (ht3.tB.row F (by omega) b (by omega)).1
                    have HT4 := Lib.hid (ht3.setB F b (by omega) (q : Int))
                    have HB4 := Lib.hid (hb3.setCell (ht3.lB F (by omega)) (p := ⟨ρB F, b, none⟩) (.int .i64 (q : Int)))
                    have HT3 := Lib.hid ht3
                    have HB3 := Lib.hid hb3
                    clear hw0 ht3 hb3 hcF hcq hv1 hv2 hcx
                    by_cases hup : s1 < 0 ∨ x + c < s1
                    · have HUP := Lib.hid (HQ1.out hup)
                      by_cases h0 : s1 < 0
                      · clear hup
                        go_wp2_with fail
                        go_roundw
                        case rel =>
                          refine ⟨k + 1, _, by omega, by rw [HUP.out], ?_, HT4.out, fun i j hi hj hne => ?_, fun _ => ?_, HB4.out⟩
                          · rw [show F + (k + 1) = q + 1 by have := HQ.out; omega]; rfl
                          · simp only [if_neg hne]; exact HOT.out i j hi hj hne
                          · rw [HUP.out]; simp
                        case measure => simp [intOf]; have := HQ.out; omega
                      · have h1 : x + c < s1 := by omega
                        clear hup
                        go_wp2_with fail
                        go_roundw
                        case rel =>
                          refine ⟨k + 1, _, by omega, by rw [HUP.out], ?_, HT4.out, fun i j hi hj hne => ?_, fun _ => ?_, HB4.out⟩
                          · rw [show F + (k + 1) = q + 1 by have := HQ.out; omega]; rfl
                          · simp only [if_neg hne]; exact HOT.out i j hi hj hne
                          · rw [HUP.out]; simp
                        case measure => simp [intOf]; have := HQ.out; omega
                    · have HUP := Lib.hid (HQ2.out hup)
                      have h0 : ¬ s1 < 0 := by omega
                      have h1 : ¬ x + c < s1 := by omega
                      have hk1 := HK1.out (by omega)
                      clear hup
                      go_wp2_with fail
                      go_roundw
                      case rel =>
                        refine ⟨k + 1, _, by omega, by rw [HUP.out], ?_, HT3.out, HOT.out, fun _ => ?_, HB3.out⟩
                        · rw [show F + (k + 1) = q + 1 by have := HQ.out; omega]; rfl
                        · rw [HUP.out]; exact HOW.out hk1
                      case measure => simp [intOf]; have := HQ.out; omega
                  · go_wp2_with fail
                    go_quiet (fail)
                    generalize hw0 : wr.drewN _ = w3
                    have ht3 : Two w3 base gC gB n ρC ρB TC TB' := by rw [← hw0]; exact HT.out.drewN _
                    have hb3 : Below base w w3 := by rw [← hw0]; exact below_drewN HBw.out _
                    have hcB3 : w3.cell? ⟨gB, F, none⟩ = some (.slice (some ⟨ρB F, 0, none⟩) (n + 1) (n + 1)) := ht3.tB.cellg F (by omega)
                    have hfB3 := (ht3.tB.row F (by omega) b (by omega)).2
                    have hvB3 := (ht3.tB.row F (by omega) b (by omega)).1
                    have HT4 := Lib.hid (ht3.setB F b (by omega) (q : Int))
                    have HB4 := Lib.hid (hb3.setCell (ht3.lB F (by omega)) (p := ⟨ρB F, b, none⟩) (.int .i64 (q : Int)))
                    have HT3 := Lib.hid ht3
                    have HB3 := Lib.hid hb3
                    clear hw0 ht3 hb3 hcF hcq hv1 hv2 hcx
                    by_cases hup : s1 < 0 ∨ x + c < s1
                    · have HUP := Lib.hid (HQ1.out hup)
                      by_cases h0 : s1 < 0
                      · clear hup
                        go_wp2_with fail
                        go_roundw
                        case rel =>
                          refine ⟨k + 1, _, by omega, by rw [HUP.out], ?_, HT4.out, fun i j hi hj hne => ?_, fun _ => ?_, HB4.out⟩
                          · rw [show F + (k + 1) = q + 1 by have := HQ.out; omega]; rfl
                          · simp only [if_neg hne]; exact HOT.out i j hi hj hne
                          · rw [HUP.out]; simp
                        case measure => simp [intOf]; have := HQ.out; omega
                      · have h1 : x + c < s1 := by omega
                        clear hup
                        go_wp2_with fail
                        go_roundw
                        case rel =>
                          refine ⟨k + 1, _, by omega, by rw [HUP.out], ?_, HT4.out, fun i j hi hj hne => ?_, fun _ => ?_, HB4.out⟩
                          · rw [show F + (k + 1) = q + 1 by have := HQ.out; omega]; rfl
                          · simp only [if_neg hne]; exact HOT.out i j hi hj hne
                          · rw [HUP.out]; simp
                        case measure => simp [intOf]; have := HQ.out; omega
                    · have HUP := Lib.hid (HQ2.out hup)
                      have h0 : ¬ s1 < 0 := by omega
                      have h1 : ¬ x + c < s1 := by omega
                      have hk1 := HK1.out (by omega)
                      clear hup
                      go_wp2_with fail
                      go_roundw
                      case rel =>
                        refine ⟨k + 1, _, by omega, by rw [HUP.out], ?_, HT3.out, HOT.out, fun _ => ?_, HB3.out⟩
                        · rw [show F + (k + 1) = q + 1 by have := HQ.out; omega]; rfl
                        · rw [HUP.out]; exact HOW.out hk1
                      case measure => simp [intOf]; have := HQ.out; omega
                · have hkl : k = L := by omega
                  have hC : Cx xs F b = (scn xs (Cx xs) F b k).1 := by rw [Cx_long (by omega), show b - F = k by omega]
                  have hF : Fx xs F b = (scn xs (Cx xs) F b k).2 := by unfold Fx; rw [if_neg (by omega), show b - F = k by omega]
                  have hcF : wr.cell? ⟨gC, F, none⟩ = some (.slice (some ⟨ρC F, 0, none⟩) (n + 1) (n + 1)) := ht.tC.cellg F (by omega)
                  have hvC := (ht.tC.row F (by omega) b (by omega)).1
                  have hfC := (ht.tC.row F (by omega) b (by omega)).2
                  have hqq : (F : Int) + (k : Int) = (b : Int) := by omega
                  have i3 : (0 : Int) ≤ (F : Int) := by omega
                  have i4 : (F : Int) < (n : Int) + 1 := by omega
                  have i7 : (b : Int) < (n : Int) + 1 := by omega
                  have i8 : (0 : Int) ≤ (b : Int) := by omega
                  rw [← hC] at hs1 ⊢
                  have hTB : TB' F b = (Fx xs F b : Nat) := by rw [hF]; exact hown (by omega)
                  have HT5 := Lib.hid (ht.setC F b (by omega) (Cx xs F b))
                  have HB5 := Lib.hid (hb.setCell (ht.lC F (by omega)) (p := ⟨ρC F, b, none⟩) (.int .i64 (Cx xs F b)))
                  have HS5 : Hid (StT xs n L (F + 1) (fun a d => if a = F ∧ d = b then Cx xs F b else TC a d) TB') := by
                    have := HS.out.step (TB' := TB') hL2 (by omega) (by rw [← hbL]; exact hoth) (by rw [← hbL]; exact hTB) (Cx xs F b) (by rw [hbL])
                    rw [← hbL] at this
                    exact this
                  obtain ⟨best, hbest⟩ : ∃ v, v = Cx xs F b := ⟨_, rfl⟩
                  rw [← hbest] at hs1 HT5 HB5 HS5 ⊢
                  clear ht hb hoth hown hC hF hbL hkl hTB hbest
                  go_wp2_with fail
                  go_roundw
                  case rel => exact ⟨F + 1, _, TB', by omega, by go_num, HS5.out, HT5.out, HB5.out⟩
                  case measure => simp [intOf]; omega
            · have hbn : ¬ (F : Int) + (L : Int) ≤ (n : Int) := by omega
              have HS := Lib.hid (hs.next (by omega))
              have HT := Lib.hid ht
              have HBw := Lib.hid hb
              clear hs ht hb hbL hbb hlt2
              go_wp2_with fail
              go_roundw
              case rel => exact ⟨L + 1, TC, TB, by omega, by omega, by go_num, HS.out, HT.out, HBw.out⟩
              case measure => simp [intOf]; omega
        · have hlti2 : ¬ (L : Int) ≤ (n : Int) := by omega
          have HS := Lib.hid (show StT xs n (n + 2) 0 TC TB from ⟨fun i j hij hjn _ => hs.1 i j hij hjn (.inl (by omega)), fun i j hij hjn _ => hs.2 i j hij hjn (.inl (by omega))⟩)
          have HT := Lib.hid ht
          have HBb := Lib.hid hb
          clear hs ht hb
          go_wp2_with fail
          go_ret2
          exact ⟨gC, gB, cC, cB, ρC, ρB, TC, TB, rfl, HT.out.tC, HT.out.tB, HS.out, by rw [← HB.out]; exact HBb.out⟩
end Go.Proofs.Ytpdijlpdkdhgpaa
