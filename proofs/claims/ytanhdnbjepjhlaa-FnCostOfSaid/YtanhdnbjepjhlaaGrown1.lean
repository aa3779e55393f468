/- Numbers in any order, and a tree of them, drawn. -/
import Derived.Test.YtanhdnbjepjhlaaProg
import Derived.Test.YtanhdnbjepjhlaaSort0
import Derived.Test.YtanhdnbjepjhlaaDrawU
import Derived.Test.YtanhdnbjepjhlaaTree0
import Derived.Deep.RegionWith
namespace Go.Proofs.Ytanhdnbjepjhlaa
open Go.RowKit

section
variable {w w' : World} {base g off cap : Nat} {L : List Int}
theorem OwL.grown (h : OwL w base g off cap L) {R : Nat} (gr : w.grownBy w' (some R)) (hR : R < base) : OwL w' base g off cap L := by
  have hne : some g ≠ some R := by intro e; injection e with e; have := h.base_le; omega
  have hb := gr.block g h.lt hne
  exact ⟨h.base_le, h.le, Nat.lt_of_lt_of_le h.lt gr.size, fun j hj => (World.cell?_of_block (a := ⟨g, off + j, none⟩) hb).trans (h.cells j hj), fun j hj => by
    rw [World.cell?_of_block (a := ⟨g, off + j, none⟩) hb, World.frozen?_of_block (a := ⟨g, off + j, none⟩) hb]; exact h.room j hj⟩
theorem OwL.front (h : OwL w base g off cap L) (k : Nat) : OwL w base g off cap (L.take k) := by
  have hle := h.le
  refine ⟨h.base_le, by rw [List.length_take]; omega, h.lt, fun j hj => ?_, h.room⟩
  rw [List.length_take] at hj
  rw [h.cells j (by omega)]
  simp [List.getD, show j < k by omega]
end

theorem getD_mem' {L : List Int} {j : Nat} (hj : j < L.length) : L.getD j 0 ∈ L := by
  rw [List.getD_eq_getElem?_getD, List.getElem?_eq_getElem hj]
  exact List.getElem_mem hj
theorem mem_set {L : List Int} {i : Nat} {x y : Int} (h : y ∈ L.set i x) : y ∈ L ∨ y = x := by
  rcases List.mem_or_eq_of_mem_set h with h | h
  · exact .inl h
  · exact .inr h

set_option maxHeartbeats 2000000 in
theorem mixed_any (R N n : Nat) (hn : 1 ≤ n) (hn2 : n ≤ 10) (hN : N ≤ 1000000) (w : World) (h : RdU w R N w.heap.size) :
    Calls Try.prog 15 #[.pointer (some ⟨R, 0, none⟩), .int .i64 n] w fun e w' => ∃ (g cap : Nat) (L : List Int), e = .returned (.slice (some ⟨g, 0, none⟩) n cap) ∧ L.length = n ∧ (∀ x ∈ L, 0 ≤ x ∧ x < 20) ∧
      OwL w' w.heap.size g 0 cap L ∧ cap ≤ maxLen ∧ RdU w' R (N + 20) w.heap.size ∧ w.grownBy w' (some R) := by
  obtain ⟨B, hB⟩ : ∃ B, B = w.heap.size := ⟨_, rfl⟩
  have hR : R < B := by rw [hB]; exact h.1
  have ha : Below B w (w.alloc (.cells #[] 3)) := by rw [hB]; exact (Below.refl _ _).alloc (Nat.le_refl _) _
  rw [← hB] at h ⊢
  have HG := Lib.hid (grownBy_any (some R) (show Below w.heap.size w (w.alloc (.cells #[] 3)) by rw [← hB]; exact ha))
  have HO := Lib.hid (show (w.alloc (.cells #[] 3)).ownsRow B 3 1 (.slice (some ⟨w.heap.size, 0, none⟩) 0 0) 0 [] by rw [hB]; exact World.ownsRow_made w #[] 0 (Nat.le_refl _) (by simp [maxLen]) (by simp))
  have HR := Lib.hid (h.below ha)
  have HB := Lib.hid hB
  clear h ha hB
  go_enter Try.func15, Try.ntmps15
  go_wp2_with fail
  go_loopw [5, 6] (fun vo vk wr => ∃ (L : List Int), L.length ≤ n ∧ vk = .int .i64 (L.length : Nat) ∧ Hid (∀ x ∈ L, 0 ≤ x ∧ x < 20) ∧
      wr.ownsRow B 3 1 vo L.length (L.map (Value.int .i64)) ∧ RdU wr R N B ∧ w.grownBy wr (some R)) (fun _ vk _ => n - (intOf vk).toNat)
  case atStart => exact ⟨[], by simp, rfl, (by intro x hx; cases hx), HO.out, HR.out, HG.out⟩
  case round =>
    clear HO HR HG
    obtain ⟨L, hk, rfl, hbd, hown, hr, hg⟩ := hrel
    have hsz : B ≤ wr.heap.size := by rw [HB.out]; exact hg.size
    have HBg := Lib.hid hg
    clear hg
    by_cases hlt : L.length < n
    · have hL2 : L.length < 1000000000 := by omega
      go_wp2_with (first | (at_builtin; (refine wpList_append_int _ rfl _ _ rfl B _ L (L.length : Nat) hown rfl rfl hL2 hsz ?_); intro v2 w4 hown4 hb4))
      go_roundw
      case rel =>
        refine ⟨L ++ [((L.length : Nat) : Int)], by simp; omega, by simp, (fun x hx => ?_), hown4, hr.below hb4, grownBy_then HBg.out (by rw [← HB.out]; exact hb4)⟩
        rcases List.mem_append.1 hx with hx | hx
        · exact hbd.out x hx
        · simp at hx; omega
      case measure => simp [intOf]; omega
    · obtain ⟨g, cap, rfl, ho, hcm⟩ := OwL.of_row hown (by omega)
      have hLn : L.length = n := by omega
      have HLN := Lib.hid hLn
      rw [hLn]
      clear hown hLn hlt hk
      go_wp2_with fail
      go_loopw [7] (fun vk wr => ∃ (L : List Int) (k : Nat), k < n ∧ vk = .int .i64 k ∧ Hid (L.length = n) ∧ Hid (∀ x ∈ L, 0 ≤ x ∧ x < 20) ∧
        OwL wr B g 0 cap L ∧ RdU wr R (N + (n - 1 - k)) B ∧ w.grownBy wr (some R)) (fun vk _ => (intOf vk).toNat)
      case atStart => exact ⟨L, n - 1, by omega, by go_num, HLN.out, hbd.out, ho, hr.more (by omega), HBg.out⟩
      case round =>
        clear ho hr HBg hbd
        obtain ⟨L2, k, hk, rfl, hlen, hbd, ho, hr, hg⟩ := hrel
        have HG := Lib.hid hg
        clear hg
        by_cases hk0 : 0 < k
        · go_wp2_with fail
          refine (pick_u R (N + (n - 1 - k)) ((k : Int) + 1) (by omega) (by omega) (by omega) _ B hr).mono ?_
          rintro e w1 ⟨j, rfl, hj0, hj1, hr1, hg1⟩
          obtain ⟨j, rfl⟩ := Int.eq_ofNat_of_zero_le hj0
          have ho1 := ho.grown hg1 hR
          have HG1 := Lib.hid (grownBy_then2 HG.out hg1)
          have hl := hlen.out
          have hkl : k < L2.length := by omega
          have hjl : j < L2.length := by omega
          have ck := ho1.cells k hkl
          have cj := ho1.cells j hjl
          have fk := (ho1.room k (by have := ho1.le; omega)).2
          have fj := (ho1.room j (by have := ho1.le; omega)).2
          rw [Nat.zero_add] at ck cj fk fj
          have hjn : (j : Int) < (n : Int) := by omega
          have hkn : (k : Int) < (n : Int) := by omega
          have hbd2 : Hid (∀ y ∈ (L2.set k (L2.getD j 0)).set j (L2.getD k 0), 0 ≤ y ∧ y < 20) := by
            intro y hy
            rcases mem_set hy with hy | rfl
            · rcases mem_set hy with hy | rfl
              · exact hbd.out y hy
              · exact hbd.out _ (getD_mem' hjl)
            · exact hbd.out _ (getD_mem' hkl)
          have hlen2 : Hid (((L2.set k (L2.getD j 0)).set j (L2.getD k 0)).length = n) := by show _ = _; simp [hl]
          have ho2 := (ho1.set k (L2.getD j 0) hkl).set j (L2.getD k 0) (by rw [List.length_set]; exact hjl)
          rw [Nat.zero_add, Nat.zero_add] at ho2
          have HO2 := Lib.hid ho2
          have hbg := ho1.base_le
          obtain ⟨L3, hL3⟩ : ∃ L3, L3 = (L2.set k (L2.getD j 0)).set j (L2.getD k 0) := ⟨_, rfl⟩
          rw [← hL3] at hbd2 hlen2 HO2
          generalize L2.getD k 0 = x at *
          generalize L2.getD j 0 = y at *
          clear ho hr hg1 ho1 hl hlen hbd ho2 hL3 HG
          by_cases hjk : j = k
          · subst hjk
            have hxy : y = x := by rw [ck] at cj; injection cj with cj; injection cj with _ cj; exact cj.symm
            subst hxy
            have HO3 : Hid (OwL ((w1.setCell ⟨g, j, none⟩ (.int .i64 y)).setCell ⟨g, j, none⟩ (.int .i64 y)) B g 0 cap L3) := HO2.out
            have HBL : Hid (Below B w1 ((w1.setCell ⟨g, j, none⟩ (.int .i64 y)).setCell ⟨g, j, none⟩ (.int .i64 y))) := ((Below.refl _ _).setCell (p := ⟨g, j, none⟩) hbg _).setCell (p := ⟨g, j, none⟩) hbg _
            clear cj fj HO2
            go_wp2_with fail
            go_roundw
            case rel => exact ⟨L3, j - 1, by omega, by go_num, hlen2.out, hbd2.out, HO3.out, (hr1.below HBL.out).more (by omega), grownBy_then HG1.out (by rw [← HB.out]; exact HBL.out)⟩
            case measure => simp [intOf]; omega
          · have hne : (⟨g, k, none⟩ : Addr) ≠ ⟨g, j, none⟩ := by intro h; injection h with _ h _; omega
            have HBL : Hid (Below B w1 ((w1.setCell ⟨g, k, none⟩ (.int .i64 y)).setCell ⟨g, j, none⟩ (.int .i64 x))) := ((Below.refl _ _).setCell (p := ⟨g, k, none⟩) hbg _).setCell (p := ⟨g, j, none⟩) hbg _
            go_wp2_with fail
            go_roundw
            case rel => exact ⟨L3, k - 1, by omega, by go_num, hlen2.out, hbd2.out, HO2.out, (hr1.below HBL.out).more (by omega), grownBy_then HG1.out (by rw [← HB.out]; exact HBL.out)⟩
            case measure => simp [intOf]; omega
        · have hke : k = 0 := by omega
          subst hke
          go_wp2_with fail
          go_ret
          exact ⟨g, cap, L2, rfl, hlen.out, hbd.out, ho, hcm, hr.more (by omega), HG.out⟩
end Go.Proofs.Ytanhdnbjepjhlaa
