/- Guesses marked. -/
import Derived.Test.YtkkjgcpkimjfkaaProg
import Derived.Test.YtkkjgcpkimjfkaaGs5
import Derived.Test.YtkkjgcpkimjfkaaRows2
namespace Go.Proofs.Ytkkjgcpkimjfkaa
open Go.RowKit

theorem blockOf_len {v : Value} {xs ys : List Int} (h : xs.length = ys.length) : blockOf v xs = blockOf v ys := by
  have he : xs = [] ↔ ys = [] := by rw [← List.length_eq_zero_iff, ← List.length_eq_zero_iff, h]
  unfold blockOf
  by_cases e : xs = []
  · rw [if_pos e, if_pos (he.1 e)]
  · rw [if_neg e, if_neg (fun x => e (he.2 x))]

theorem TgAt.mark {w w1 : World} {B n i : Nat} {gs : List Gs} {us : Nat → Value} {xs : List Int} (h : TgAt w B n n gs us) (hn : gs.length = n) (hB : B < w.heap.size) (hi : i < n) (g : w.grownBy w1 (blockOf (us i) (gs.getD i gNil).code)) (o : Ow w1 (B + 1) (us i) xs) (hl : xs.length = (gs.getD i gNil).code.length) (r q : Int) :
    TgAt ((w1.setCell ⟨B, i * 3 + 1, none⟩ (.int .i64 r)).setCell ⟨B, i * 3 + 2, none⟩ (.int .i64 q)) B n n (gs.set i ⟨xs, r, q⟩) us := by
  have hgs : ∀ j, (gs.set i ⟨xs, r, q⟩).getD j gNil = if j = i then ⟨xs, r, q⟩ else gs.getD j gNil := fun j => getD_set _ _ _ _ (by omega) j
  have hne : some B ≠ blockOf (us i) (gs.getD i gNil).code := fun e => by
    have := (h.got i hi hi).2.1.block_ge B e.symm
    omega
  have hcB : ∀ o, w1.cell? ⟨B, o, none⟩ = w.cell? ⟨B, o, none⟩ := fun o => World.cell?_of_block (g.block B hB hne)
  have hfB : ∀ o, w1.frozen? ⟨B, o, none⟩ = w.frozen? ⟨B, o, none⟩ := fun o => World.frozen?_of_block (g.block B hB hne)
  obtain ⟨⟨x1, e1⟩, _⟩ := h.cells i hi 1 (by omega)
  obtain ⟨⟨x2, e2⟩, _⟩ := h.cells i hi 2 (by omega)
  rw [← hcB] at e1 e2
  have m1 : ((w1.setCell ⟨B, i * 3 + 1, none⟩ (.int .i64 r)).setCell ⟨B, i * 3 + 2, none⟩ (.int .i64 q)).cell? ⟨B, i * 3 + 1, none⟩ = some (.int .i64 r) := by
    rw [cell_far (by omega)]; exact World.cell?_setCell_same _ _ _ e1
  have m2 : ((w1.setCell ⟨B, i * 3 + 1, none⟩ (.int .i64 r)).setCell ⟨B, i * 3 + 2, none⟩ (.int .i64 q)).cell? ⟨B, i * 3 + 2, none⟩ = some (.int .i64 q) :=
    World.cell?_setCell_same _ _ _ ((cell_far (by omega)).trans e2)
  have hfar : ∀ s, s ≠ i * 3 + 1 → s ≠ i * 3 + 2 → ((w1.setCell ⟨B, i * 3 + 1, none⟩ (.int .i64 r)).setCell ⟨B, i * 3 + 2, none⟩ (.int .i64 q)).cell? ⟨B, s, none⟩ = w.cell? ⟨B, s, none⟩ := fun s h1 h2 => by
    rw [cell_far (by omega), cell_far (by omega), hcB]
  refine ⟨fun j hj _ => ?_, fun j hj s hs => ?_, fun a j haj _ hj b hb => ?_⟩
  · rw [hgs]
    by_cases e : j = i
    · subst e
      rw [if_pos rfl]
      obtain ⟨a1, a2, a3, a4⟩ := h.got j hj hj
      exact ⟨(hfar _ (by omega) (by omega)).trans a1, (o.setLow (by omega) _ _).setLow (by omega) _ _, m1, m2⟩
    · rw [if_neg e]
      obtain ⟨a1, a2, a3, a4⟩ := h.got j hj hj
      refine ⟨(hfar _ (by omega) (by omega)).trans a1, ((a2.grown g ?_).setLow (by omega) _ _).setLow (by omega) _ _, (hfar _ (by omega) (by omega)).trans a3, (hfar _ (by omega) (by omega)).trans a4⟩
      cases hb : blockOf (us j) (gs.getD j gNil).code with
      | none => exact .inl rfl
      | some b =>
        right
        intro e2
        rcases Nat.lt_or_gt_of_ne e with hl | hl
        · exact h.apart j i hl hi hi b hb e2.symm
        · exact h.apart i j hl hj hj b e2.symm hb
  · refine ⟨?_, ?_⟩
    · by_cases e : j = i
      · subst e
        obtain rfl | rfl | rfl : s = 0 ∨ s = 1 ∨ s = 2 := by omega
        · obtain ⟨⟨x, ex⟩, _⟩ := h.cells j hj 0 (by omega)
          exact ⟨x, (hfar _ (by omega) (by omega)).trans ex⟩
        · exact ⟨_, m1⟩
        · exact ⟨_, m2⟩
      · obtain ⟨⟨x, ex⟩, _⟩ := h.cells j hj s hs
        exact ⟨x, (hfar _ (by omega) (by omega)).trans ex⟩
    · rw [World.frozen?_setCell, World.frozen?_setCell, hfB]
      exact (h.cells j hj s hs).2
  · have hbl : ∀ m, blockOf (us m) ((gs.set i ⟨xs, r, q⟩).getD m gNil).code = blockOf (us m) (gs.getD m gNil).code := fun m => by
      rw [hgs]
      by_cases e : m = i
      · subst e; rw [if_pos rfl]; exact blockOf_len hl
      · rw [if_neg e]
    rw [hbl] at hb ⊢
    exact h.apart a j haj hj hj b hb

/-- v is a slice of guesses of the call's own, its blocks from lo on and below hi -/
structure OwGH (w : World) (lo hi B : Nat) (us : Nat → Value) (gs : List Gs) : Prop where
  num : gs.length ≤ 1048576
  low : lo ≤ B
  high : B < hi
  at_ : TgAt w B gs.length gs.length gs us
  block : ∀ j, j < gs.length → ∀ b, blockOf (us j) (gs.getD j gNil).code = some b → b < hi
  len : ∀ j, j < gs.length → (gs.getD j gNil).code.length ≤ 1048576
theorem OwG.high {w : World} {lo : Nat} {v : Value} {gs : List Gs} (h : OwG w lo v gs) (hc : ∀ j, j < gs.length → (gs.getD j gNil).code.length ≤ 1048576) : ∃ B us, v = .slice (some ⟨B, 0, none⟩) gs.length gs.length ∧ OwGH w lo w.heap.size B us gs := by
  obtain ⟨B, e, hm, hl, hB, us, h⟩ := h
  exact ⟨B, us, e, hm, hl, hB, h, fun j hj b hb => (h.got j hj hj).2.1.rd.block_lt b hb, hc⟩
theorem OwGH.below {w w' : World} {lo hi B : Nat} {us : Nat → Value} {gs : List Gs} (h : OwGH w lo hi B us gs) (hh : hi ≤ w.heap.size) (b : Below w.heap.size w w') : OwGH w' lo hi B us gs :=
  ⟨h.num, h.low, h.high, h.at_.below (Nat.lt_of_lt_of_le h.high hh) b, h.block, h.len⟩
theorem OwGH.rd {w : World} {lo hi B : Nat} {us : Nat → Value} {gs : List Gs} (h : OwGH w lo hi B us gs) : RdG w (.slice (some ⟨B, 0, none⟩) gs.length gs.length) gs := by
  refine ⟨_, _, rfl, by have := h.num; simp only [maxLen]; omega, fun _ => ⟨B, 0, rfl, fun j hj => ?_⟩⟩
  obtain ⟨a1, a2, a3, a4⟩ := h.at_.got j hj hj
  rw [Nat.zero_add]
  exact ⟨us j, a1, a2.rd, a3, a4⟩

theorem OwR.low {w w' : World} {base : Nat} {v : Value} {us : List Value} {rows : List (List Int)} (h : OwR w base v us rows) {row : Option Nat} (g : w.grownBy w' row) (hr : ∀ b, row = some b → b < base) : OwR w' base v us rows :=
  h.kept g (fun b e => ⟨fun e2 => by have := (h.base_le b (.inl e2)).1; have := hr b e; omega, fun j hj e2 => by have := (h.base_le b (.inr ⟨j, hj, e2⟩)).1; have := hr b e; omega⟩)

def MkPost (lo : Nat) (base : Nat) (g : Value) (ug : List Value) (rows : List (List Int)) (w : World) (e : Ending) (w' : World) : Prop :=
  (∃ r : Int, e = .returned (.int .i64 r) ∧ 0 ≤ r) ∧ OwR w' base g ug rows ∧ Below lo w w'

set_option maxHeartbeats 4000000 in
theorem markGuessS_any (lo hi B base : Nat) (us : Nat → Value) (gs : List Gs) (g : Value) (ug : List Value) (rows : List (List Int)) (w : World) (h : OwGH w lo hi B us gs) (hh : hi ≤ w.heap.size) (hg : OwR w base g ug rows) (hb : hi ≤ base) :
    Calls Try.prog 31 #[.slice (some ⟨B, 0, none⟩) gs.length gs.length, .int .i64 1] w (MkPost lo base g ug rows w) := by
  generalize hn : gs.length = n at *
  have hnum := h.num
  rw [hn] at hnum
  have HN := Lib.hid hn
  have HG := Lib.hid hg
  have HH := Lib.hid h
  have HHI := Lib.hid hh
  have HBH := Lib.hid hb
  have HLB := Lib.hid h.low
  clear h hg hn hh hb
  go_enter Try.func31, Try.ntmps31
  go_wp2_with fail
  go_loopw [1, 5] (fun kq iq wr => ∃ (i : Nat) (q : Int) (gs' : List Gs), i ≤ n ∧ iq = .int .i64 i ∧ kq = .int .i64 q ∧ 0 ≤ q ∧ q ≤ 1 + (i : Int) * 1048578 ∧ Hid (gs'.length = n) ∧ Hid (OwGH wr lo hi B us gs') ∧ Hid (OwR wr base g ug rows) ∧ Hid (Below lo w wr)) (fun _ iq _ => n - (intOf iq).toNat)
  case atStart => exact ⟨0, 1, gs, by omega, rfl, rfl, by omega, by omega, HN.out, HH.out, HG.out, Below.refl _ _⟩
  case round =>
    clear HH HG
    obtain ⟨i, q, gs', hi1, rfl, rfl, hq0, hq1, HN', HH, HR, HB⟩ := hrel
    by_cases hlt : i < n
    · have hil : i < gs'.length := by rw [HN'.out]; exact hlt
      obtain ⟨a1, a2, a3, a4⟩ := HH.out.at_.got i hil hil
      have hlen := HH.out.len i hil
      obtain ⟨⟨y1, t1⟩, f1⟩ := HH.out.at_.cells i hil 1 (by omega)
      obtain ⟨⟨y2, t2⟩, f2⟩ := HH.out.at_.cells i hil 2 (by omega)
      have hwB : B < wr.heap.size := Nat.lt_of_lt_of_le HH.out.high (Nat.le_trans HHI.out HB.out.size)
      have hne : some B ≠ blockOf (us i) (gs'.getD i gNil).code := fun e => by
        have := a2.block_ge B e.symm
        omega
      have K := Lib.hid (markIntS_any (us i) q (gs'.getD i gNil).code (B + 1) wr a2 hq0 (by omega))
      have HNE := Lib.hid hne
      have HWB := Lib.hid hwB
      obtain ⟨x, cx, hux, _, _⟩ := a2
      have HUX := Lib.hid hux
      rw [hux] at a1 K
      generalize hlk : (gs'.getD i gNil).code.length = lk at *
      have HLK := Lib.hid hlk
      have hi0 : (0 : Int) ≤ (i : Int) := by omega
      have hi2 : (i : Int) < (n : Int) := by omega
      have HBL : Hid (∀ b, blockOf (us i) (gs'.getD i gNil).code = some b → B + 1 ≤ b ∧ b < hi) := fun b hb => ⟨(HH.out.at_.got i hil hil).2.1.block_ge b hb, HH.out.block i hil b hb⟩
      clear hne hwB hux a3 a4 hil hlk
      go_wp2_with fail
      refine K.out.mono ?_
      rintro e w1 ⟨rfl, o1, g1⟩
      have HO1 := Lib.hid o1
      have HG1 := Lib.hid g1
      clear o1 g1 K
      have t1' := (World.cell?_of_block (a := ⟨B, i * 3 + 1, none⟩) (HG1.out.block B HWB.out (by rw [← HUX.out]; exact HNE.out))).trans t1
      have t2' := (World.cell?_of_block (a := ⟨B, i * 3 + 2, none⟩) (HG1.out.block B HWB.out (by rw [← HUX.out]; exact HNE.out))).trans t2
      have f1' := (World.frozen?_of_block (a := ⟨B, i * 3 + 1, none⟩) (HG1.out.block B HWB.out (by rw [← HUX.out]; exact HNE.out))).trans f1
      have f2' := (World.frozen?_of_block (a := ⟨B, i * 3 + 2, none⟩) (HG1.out.block B HWB.out (by rw [← HUX.out]; exact HNE.out))).trans f2
      clear t1 t2 f1 f2 a1
      go_wp2_with fail
      go_roundw
      case rel =>
        have hgb : wr.grownBy w1 (blockOf (us i) (gs'.getD i gNil).code) := by rw [HUX.out]; exact HG1.out
        have hxl : (marks q lk).length = (gs'.getD i gNil).code.length := by rw [marks_length]; exact HLK.out.symm
        have hil : i < gs'.length := by rw [HN'.out]; exact hlt
        have hoo : Ow w1 (B + 1) (us i) (marks q lk) := by rw [HUX.out]; exact HO1.out
        have hT := HH.out.at_.mark rfl HWB.out hil hgb hoo hxl (q + lk) (q + lk + 1)
        have hgs : ∀ j, (gs'.set i ⟨marks q lk, q + lk, q + lk + 1⟩).getD j gNil = if j = i then ⟨marks q lk, q + lk, q + lk + 1⟩ else gs'.getD j gNil := fun j => getD_set _ _ _ _ hil j
        refine ⟨i + 1, q + lk + 1 + 1, gs'.set i ⟨marks q lk, q + lk, q + lk + 1⟩, by omega, by go_num, by go_num, by omega, by omega, ?_, ⟨?_, HLB.out, HH.out.high, ?_, fun j hj b hb => ?_, fun j hj => ?_⟩, ?_, ?_⟩
        · show _ = _
          rw [List.length_set]; exact HN'.out
        · rw [List.length_set]; exact HH.out.num
        · rw [List.length_set]; exact hT
        · rw [List.length_set] at hj
          refine HH.out.block j hj b ?_
          rw [← hb, hgs]
          by_cases e : j = i
          · subst e; rw [if_pos rfl]; exact (blockOf_len hxl).symm
          · rw [if_neg e]
        · rw [List.length_set] at hj
          rw [hgs]
          by_cases e : j = i
          · subst e; rw [if_pos rfl]; show (marks q lk).length ≤ _; rw [marks_length]; exact hlen
          · rw [if_neg e]; exact HH.out.len j hj
        · have hlow : B < base := Nat.lt_of_lt_of_le HH.out.high HBH.out
          exact ((HR.out.low hgb (fun b hb => Nat.lt_of_lt_of_le (HBL.out b hb).2 HBH.out)).low (grownBy_set (World.grownBy.refl _ _) _ _) (fun b hb => by injection hb with hb; omega)).low (grownBy_set (World.grownBy.refl _ _) _ _) (fun b hb => by injection hb with hb; omega)
        · have hlw : lo ≤ wr.heap.size := Nat.le_trans HLB.out (Nat.le_of_lt HWB.out)
          exact ((HB.out.grown hgb hlw (fun b hb => by have := (HBL.out b hb).1; have := HLB.out; omega)).setCell (p := ⟨B, i * 3 + 1, none⟩) HLB.out _).setCell (p := ⟨B, i * 3 + 2, none⟩) HLB.out _
      case measure => simp [intOf]; omega
    · go_wp2_with fail
      go_ret
      exact ⟨⟨q, rfl, hq0⟩, HR.out, HB.out⟩
end Go.Proofs.Ytkkjgcpkimjfkaa
