/- Slices of guesses copied and compared. -/
import Derived.Test.YtkkjgcpkimjfkaaProg
import Derived.Test.YtkkjgcpkimjfkaaGs3
namespace Go.Proofs.Ytkkjgcpkimjfkaa
open Go.RowKit

/-- block B holds n guesses; the first k of them are those of gs, their codes us the call's own behind B, each apart from all others -/
structure TgAt (w : World) (B n k : Nat) (gs : List Gs) (us : Nat → Value) : Prop where
  got : ∀ j, j < n → j < k → w.cell? ⟨B, j * 3, none⟩ = some (us j) ∧ Ow w (B + 1) (us j) (gs.getD j gNil).code ∧ w.cell? ⟨B, j * 3 + 1, none⟩ = some (.int .i64 (gs.getD j gNil).right) ∧ w.cell? ⟨B, j * 3 + 2, none⟩ = some (.int .i64 (gs.getD j gNil).near)
  cells : ∀ j, j < n → ∀ o, o < 3 → (∃ x, w.cell? ⟨B, j * 3 + o, none⟩ = some x) ∧ w.frozen? ⟨B, j * 3 + o, none⟩ = false
  apart : ∀ i j, i < j → j < k → j < n → ∀ b, blockOf (us i) (gs.getD i gNil).code = some b → blockOf (us j) (gs.getD j gNil).code ≠ some b
theorem TgAt.below {w w' : World} {B n k : Nat} {gs : List Gs} {us : Nat → Value} (h : TgAt w B n k gs us) (hB : B < w.heap.size) (b : Below w.heap.size w w') : TgAt w' B n k gs us := by
  refine ⟨fun j hj hk => ?_, fun j hj o ho => ?_, h.apart⟩
  · obtain ⟨a1, a2, a3, a4⟩ := h.got j hj hk
    exact ⟨(b.cell (p := ⟨B, j * 3, none⟩) hB).trans a1, a2.below b, (b.cell (p := ⟨B, j * 3 + 1, none⟩) hB).trans a3, (b.cell (p := ⟨B, j * 3 + 2, none⟩) hB).trans a4⟩
  · obtain ⟨⟨x, a1⟩, a2⟩ := h.cells j hj o ho
    exact ⟨⟨x, (b.cell (p := ⟨B, j * 3 + o, none⟩) hB).trans a1⟩, (b.frozen (p := ⟨B, j * 3 + o, none⟩) hB).trans a2⟩
theorem cell_far {w : World} {B i j : Nat} {x : Value} (h : i ≠ j) : (w.setCell ⟨B, i, none⟩ x).cell? ⟨B, j, none⟩ = w.cell? ⟨B, j, none⟩ :=
  World.cell?_setCell_other _ _ _ _ (fun e => h (by injection e))
theorem TgAt.step {w : World} {B n k : Nat} {gs : List Gs} {us : Nat → Value} (h : TgAt w B n k gs us) (hk : k < n) (u : Value) (hu : Ow w (B + 1) u (gs.getD k gNil).code)
    (hf : ∀ i b, i < k → blockOf (us i) (gs.getD i gNil).code = some b → blockOf u (gs.getD k gNil).code ≠ some b) :
    TgAt (((w.setCell ⟨B, k * 3, none⟩ u).setCell ⟨B, k * 3 + 1, none⟩ (.int .i64 (gs.getD k gNil).right)).setCell ⟨B, k * 3 + 2, none⟩ (.int .i64 (gs.getD k gNil).near)) B n (k + 1) gs (fun j => if j = k then u else us j) := by
  have hkc := h.cells k hk
  obtain ⟨⟨x0, e0⟩, _⟩ := hkc 0 (by omega)
  obtain ⟨⟨x1, e1⟩, _⟩ := hkc 1 (by omega)
  obtain ⟨⟨x2, e2⟩, _⟩ := hkc 2 (by omega)
  rw [Nat.add_zero] at e0
  have m0 : (((w.setCell ⟨B, k * 3, none⟩ u).setCell ⟨B, k * 3 + 1, none⟩ (.int .i64 (gs.getD k gNil).right)).setCell ⟨B, k * 3 + 2, none⟩ (.int .i64 (gs.getD k gNil).near)).cell? ⟨B, k * 3, none⟩ = some u := by
    rw [cell_far (by omega), cell_far (by omega)]; exact World.cell?_setCell_same _ _ _ e0
  have m1 : (((w.setCell ⟨B, k * 3, none⟩ u).setCell ⟨B, k * 3 + 1, none⟩ (.int .i64 (gs.getD k gNil).right)).setCell ⟨B, k * 3 + 2, none⟩ (.int .i64 (gs.getD k gNil).near)).cell? ⟨B, k * 3 + 1, none⟩ = some (.int .i64 (gs.getD k gNil).right) := by
    rw [cell_far (by omega)]; exact World.cell?_setCell_same _ _ _ ((cell_far (by omega)).trans e1)
  have m2 : (((w.setCell ⟨B, k * 3, none⟩ u).setCell ⟨B, k * 3 + 1, none⟩ (.int .i64 (gs.getD k gNil).right)).setCell ⟨B, k * 3 + 2, none⟩ (.int .i64 (gs.getD k gNil).near)).cell? ⟨B, k * 3 + 2, none⟩ = some (.int .i64 (gs.getD k gNil).near) :=
    World.cell?_setCell_same _ _ _ ((cell_far (by omega)).trans ((cell_far (by omega)).trans e2))
  have hfr : ∀ j o, (((w.setCell ⟨B, k * 3, none⟩ u).setCell ⟨B, k * 3 + 1, none⟩ (.int .i64 (gs.getD k gNil).right)).setCell ⟨B, k * 3 + 2, none⟩ (.int .i64 (gs.getD k gNil).near)).frozen? ⟨B, j * 3 + o, none⟩ = w.frozen? ⟨B, j * 3 + o, none⟩ := fun j o => by
    rw [World.frozen?_setCell, World.frozen?_setCell, World.frozen?_setCell]
  have hc : ∀ j o, j ≠ k → o < 3 → (((w.setCell ⟨B, k * 3, none⟩ u).setCell ⟨B, k * 3 + 1, none⟩ (.int .i64 (gs.getD k gNil).right)).setCell ⟨B, k * 3 + 2, none⟩ (.int .i64 (gs.getD k gNil).near)).cell? ⟨B, j * 3 + o, none⟩ = w.cell? ⟨B, j * 3 + o, none⟩ := fun j o e ho => by
    rw [cell_far (by omega), cell_far (by omega), cell_far (by omega)]
  refine ⟨fun j hj hjk => ?_, fun j hj o ho => ?_, fun i j hij hjk hj b hb => ?_⟩
  · by_cases e : j = k
    · subst e
      simp only [if_pos]
      exact ⟨m0, ((hu.setLow (by omega) _ _).setLow (by omega) _ _).setLow (by omega) _ _, m1, m2⟩
    · simp only [if_neg e]
      obtain ⟨a1, a2, a3, a4⟩ := h.got j hj (by omega)
      exact ⟨(hc j 0 e (by omega)).trans a1, ((a2.setLow (by omega) _ _).setLow (by omega) _ _).setLow (by omega) _ _, (hc j 1 e (by omega)).trans a3, (hc j 2 e (by omega)).trans a4⟩
  · by_cases e : j = k
    · subst e
      refine ⟨?_, (hfr j o).trans (h.cells j hj o ho).2⟩
      obtain rfl | rfl | rfl : o = 0 ∨ o = 1 ∨ o = 2 := by omega
      · exact ⟨_, m0⟩
      · exact ⟨_, m1⟩
      · exact ⟨_, m2⟩
    · obtain ⟨⟨x, b1⟩, b2⟩ := h.cells j hj o ho
      exact ⟨⟨x, (hc j o e ho).trans b1⟩, (hfr j o).trans b2⟩
  · have hik : i ≠ k := by omega
    simp only [if_neg hik] at hb
    by_cases e : j = k
    · subst e
      simp only [if_pos]
      exact hf i b hij hb
    · simp only [if_neg e]
      exact h.apart i j hij (by omega) hj b hb

/-- v is a slice of guesses of the call's own, from lo on -/
def OwG (w : World) (lo : Nat) (v : Value) (gs : List Gs) : Prop := ∃ B, v = .slice (some ⟨B, 0, none⟩) gs.length gs.length ∧ gs.length ≤ 1048576 ∧ lo ≤ B ∧ B < w.heap.size ∧ ∃ us, TgAt w B gs.length gs.length gs us
theorem OwG.rd {w : World} {lo : Nat} {v : Value} {gs : List Gs} (h : OwG w lo v gs) : RdG w v gs := by
  obtain ⟨B, rfl, hm, _, _, us, h⟩ := h
  refine ⟨_, _, rfl, by simp only [maxLen]; omega, fun _ => ⟨B, 0, rfl, fun j hj => ?_⟩⟩
  obtain ⟨a1, a2, a3, a4⟩ := h.got j hj hj
  rw [Nat.zero_add]
  exact ⟨us j, a1, a2.rd, a3, a4⟩
theorem OwG.below {w w' : World} {lo : Nat} {v : Value} {gs : List Gs} (h : OwG w lo v gs) (b : Below w.heap.size w w') : OwG w' lo v gs := by
  obtain ⟨B, e, hm, hl, hB, us, h⟩ := h
  exact ⟨B, e, hm, hl, Nat.lt_of_lt_of_le hB b.size, us, h.below hB b⟩

set_option maxHeartbeats 2000000 in
theorem toGuessS_any (v : Value) (gs : List Gs) (w : World) (h : RdG w v gs) (hl : gs.length ≤ 1048576) (hc : ∀ j, j < gs.length → (gs.getD j gNil).code.length ≤ 1048576) :
    Calls Try.prog 26 #[v] w fun e w' => (∃ u, e = .returned u ∧ OwG w' w.heap.size u gs) ∧ Below w.heap.size w w' := by
  obtain ⟨a, ca, rfl, hm, ha⟩ := h
  have HA := Lib.hid ha
  have HC := Lib.hid hc
  clear ha hc
  generalize hn : gs.length = n at *
  have HN := Lib.hid hn
  clear hn
  obtain ⟨i0, hi, hz0, hz1, hz2⟩ : ∃ i0, Try.prog.info? 55 = some i0 ∧ i0.zero = some (.agg #[.slice none 0 0, .int .i64 0, .int .i64 0]) ∧ i0.size = 3 ∧ i0.bytes = 40 := by
    have h : (Try.prog.info? 55).map (fun i => (i.zero, i.size, i.bytes)) = some (some (.agg #[.slice none 0 0, .int .i64 0, .int .i64 0]), 3, 40) := by kernel_rfl
    exact info_parts h
  go_enter Try.func26, Try.ntmps26
  go_wp2_with (first | (at_make; refine wpList_make_full _ rfl _ _ 37 rfl w.heap.size 55 i0 (.agg #[.slice none 0 0, .int .i64 0, .int .i64 0]) 3 Try.underlying37 hi hz0 hz1 .i64 .i64 _ _ n rfl rfl (by omega) (by omega) (by rw [hz2]; omega) (by unfold maxLen; omega) (Nat.le_refl _) ?_; intro w1 hown hgrow))
  have hrow : TgAt w1 w.heap.size n 0 gs (fun _ => .slice none 0 0) := by
    refine ⟨fun j _ hj => absurd hj (by omega), fun j hj o ho => ?_, fun i j _ hj => absurd hj (by omega)⟩
    rw [hown.cellAt (j * 3 + o) (by omega)]
    have hl2 := hown.1
    exact ⟨⟨_, List.getElem?_eq_getElem (by rw [hl2]; omega)⟩, hown.frozenAt _⟩
  have HR := Lib.hid hrow
  have HW1 : Hid (w.heap.size < w1.heap.size) := (hown.lt _ rfl).2
  have HG := Lib.hid (grown_below hgrow)
  clear hown hgrow hrow
  generalize hB : w.heap.size = B at *
  have HBB := Lib.hid hB
  clear hB
  go_loopw [4] (fun q wr => ∃ k : Nat, k ≤ n ∧ q = .int .i64 k ∧ Hid (∃ us, TgAt wr B n k gs us) ∧ Below B w wr ∧ B < wr.heap.size) (fun q _ => n - (intOf q).toNat)
  case atStart => exact ⟨0, by omega, rfl, ⟨_, HR.out⟩, HG.out, HW1.out⟩
  case round =>
    obtain ⟨k, hk, rfl, HP, hbel, hBlt⟩ := hrel
    by_cases hlt : k < n
    · have hne : gs ≠ [] := by intro e; have := HN.out; rw [e] at this; simp at this; omega
      obtain ⟨g, off, rfl, hc⟩ := HA.out hne
      obtain ⟨u, h1, hru, h2, h3⟩ := hc k hlt
      have hg := World.block_lt_of_cell? w _ h1
      have hb' : Below w.heap.size w wr := by rw [HBB.out]; exact hbel
      have c1 := (hb'.cell (p := ⟨g, off + k * 3, none⟩) hg).trans h1
      have c2 := (hb'.cell (p := ⟨g, off + k * 3 + 1, none⟩) hg).trans h2
      have c3 := (hb'.cell (p := ⟨g, off + k * 3 + 2, none⟩) hg).trans h3
      have K := Lib.hid (toGuess_any u (gs.getD k gNil) wr (hru.below hb') (HC.out k hlt))
      obtain ⟨x, cx, rfl, _, _⟩ := hru
      obtain ⟨us, hT⟩ := HP.out
      have HT := Lib.hid hT
      have Hstep : Hid (∀ w', TgAt w' B n k gs us → ∀ u, Ow w' (B + 1) u (gs.getD k gNil).code → (∀ i b, i < k → blockOf (us i) (gs.getD i gNil).code = some b → blockOf u (gs.getD k gNil).code ≠ some b) → ∃ us', TgAt (((w'.setCell ⟨B, k * 3, none⟩ u).setCell ⟨B, k * 3 + 1, none⟩ (.int .i64 (gs.getD k gNil).right)).setCell ⟨B, k * 3 + 2, none⟩ (.int .i64 (gs.getD k gNil).near)) B n (k + 1) gs us') :=
        fun w' t u hu hf => ⟨_, t.step hlt u hu hf⟩
      have HK : Hid (∀ e w', ToPost (gs.getD k gNil) wr e w' → (∃ u, e = .returned (.agg #[u, .int .i64 (gs.getD k gNil).right, .int .i64 (gs.getD k gNil).near]) ∧ Ow w' wr.heap.size u (gs.getD k gNil).code) ∧ Below wr.heap.size wr w') := fun _ _ h => h
      have HUS : Hid (∀ i b, i < k → blockOf (us i) (gs.getD i gNil).code = some b → b < wr.heap.size) := fun i b hi hb => (hT.got i (by omega) hi).2.1.rd.block_lt b hb
      obtain ⟨⟨y0, t0⟩, f0⟩ := hT.cells k hlt 0 (by omega)
      obtain ⟨⟨y1, t1⟩, f1⟩ := hT.cells k hlt 1 (by omega)
      obtain ⟨⟨y2, t2⟩, f2⟩ := hT.cells k hlt 2 (by omega)
      rw [Nat.add_zero] at t0 f0
      have HB := Lib.hid hbel
      have HBL := Lib.hid hBlt
      have hi0 : (0 : Int) ≤ (k : Int) := by omega
      have hi1 : (k : Int) < (n : Int) := by omega
      generalize (gs.getD k gNil).code = code at *
      generalize (gs.getD k gNil).right = r at *
      generalize (gs.getD k gNil).near = q at *
      generalize hlk : code.length = lk at *
      clear hc hne h1 h2 h3 HP hbel hb' hT hBlt hlk
      go_wp2_with fail
      refine K.out.mono ?_
      intro e w2 hp
      obtain ⟨⟨u', rfl, ho⟩, hb2⟩ := HK.out e w2 hp
      have t0' := (hb2.cell (p := ⟨B, k * 3, none⟩) HBL.out).trans t0
      have t1' := (hb2.cell (p := ⟨B, k * 3 + 1, none⟩) HBL.out).trans t1
      have t2' := (hb2.cell (p := ⟨B, k * 3 + 2, none⟩) HBL.out).trans t2
      have f0' := (hb2.frozen (p := ⟨B, k * 3, none⟩) HBL.out).trans f0
      have f1' := (hb2.frozen (p := ⟨B, k * 3 + 1, none⟩) HBL.out).trans f1
      have f2' := (hb2.frozen (p := ⟨B, k * 3 + 2, none⟩) HBL.out).trans f2
      have HO := Lib.hid ho
      have HB2 := Lib.hid hb2
      clear ho hb2 hp HK K t0 t1 t2 f0 f1 f2 c1 c2 c3
      obtain ⟨x', cx', hu', _, _⟩ := HO.out
      rw [hu'] at HO ⊢
      generalize code.length = lk' at *
      clear hu'
      go_wp2_with fail
      go_roundw
      case rel =>
        have hT2 := HT.out.below HBL.out HB2.out
        have hw2 := HB2.out.size
        have hbl := HBL.out
        refine ⟨k + 1, by omega, by go_num, Hstep.out _ hT2 _ (HO.out.mono (by omega)) ?_, ?_, ?_⟩
        · intro i b hi hb hb'
          have h1 := HUS.out i b hi hb
          have h2 := HO.out.block_ge b hb'
          omega
        · exact ((((HB.out.trans (HB2.out.mono (by omega)))).setCell (p := ⟨B, k * 3, none⟩) (Nat.le_refl _) _).setCell (p := ⟨B, k * 3 + 1, none⟩) (Nat.le_refl _) _).setCell (p := ⟨B, k * 3 + 2, none⟩) (Nat.le_refl _) _
        · simp [World.setCell]; omega
      case measure => simp [intOf]; omega
    · have hkn : k = n := by omega
      subst hkn
      have HB := Lib.hid hbel
      have HBL := Lib.hid hBlt
      clear hbel hBlt
      go_wp2_with fail
      go_ret
      refine ⟨⟨_, rfl, B, by rw [HN.out]; rfl, by rw [HN.out]; exact hl, by rw [HBB.out]; exact Nat.le_refl _, HBL.out, ?_⟩, by rw [HBB.out]; exact HB.out⟩
      rw [HN.out]
      exact HP.out
end Go.Proofs.Ytkkjgcpkimjfkaa
