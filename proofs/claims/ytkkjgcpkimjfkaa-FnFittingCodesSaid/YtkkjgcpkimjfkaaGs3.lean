/- Guesses measured, copied and compared. -/
import Derived.Test.YtkkjgcpkimjfkaaProg
import Derived.Test.YtkkjgcpkimjfkaaGs2
namespace Go.Proofs.Ytkkjgcpkimjfkaa
open Go.RowKit

theorem szIntS_any (v : Value) (xs : List Int) (L : Int) (w : World) (h : Rd w v xs) (h0 : 0 ≤ L) (h1 : L ≤ 1048576) :
    Calls Try.prog 68 #[v, .int .i64 L] w fun e w' => e = .returned (.int .i64 (if L < xs.length then -1 else L - xs.length)) ∧ w = w' := by
  obtain ⟨a, ca, rfl, hm, _⟩ := h
  unfold maxLen at hm
  generalize xs.length = n at *
  by_cases hl : L < n
  · rw [if_pos hl]
    have hl2 : L - (n : Int) < 0 := by omega
    go_enter Try.func68, Try.ntmps68
    go_wp2_with fail
    go_ret
    exact ⟨rfl, rfl⟩
  · rw [if_neg hl]
    have hl2 : ¬ L - (n : Int) < 0 := by omega
    have hl3 : 0 ≤ L - (n : Int) := by omega
    go_enter Try.func68, Try.ntmps68
    go_wp2_with fail
    go_ret
    exact ⟨rfl, rfl⟩

theorem szGuess_any (u : Value) (g : Gs) (L : Int) (W : World) (hr : Rd W u g.code) (h0 : 0 ≤ L) (h1 : L ≤ 1048576) :
    Calls Try.prog 48 #[.agg #[u, .int .i64 g.right, .int .i64 g.near], .int .i64 L] W fun e w' => e = .returned (.int .i64 (if L < g.code.length then -1 else L - g.code.length)) ∧ Below W.heap.size W w' := by
  obtain ⟨code, r, n⟩ := g
  simp only at hr ⊢
  have ha : Below W.heap.size W (W.alloc (.cells #[u, .int .i64 r, .int .i64 n] 63)) := (Below.refl _ _).alloc (Nat.le_refl _) _
  have k := Lib.hid (szIntS_any u code L _ (hr.below ha) h0 h1)
  have HA := Lib.hid ha
  obtain ⟨x, cx, rfl, hm, _⟩ := hr
  generalize code.length = lk at *
  clear ha
  obtain ⟨S, hS⟩ : ∃ S : Int, S = if L < (lk : Int) then -1 else L - lk := ⟨_, rfl⟩
  rw [← hS] at k ⊢
  have hS1 : -1 ≤ S ∧ S ≤ 1048576 := by rw [hS]; split <;> omega
  clear hS
  by_cases hn : S < 0
  · have hS3 : S = -1 := by omega
    subst hS3
    go_enter Try.func48, Try.ntmps48
    go_wp2_with fail
    refine k.out.mono ?_
    rintro e w1 ⟨rfl, rfl⟩
    go_wp2_with fail
    go_ret
    exact ⟨rfl, HA.out⟩
  · go_enter Try.func48, Try.ntmps48
    go_wp2_with fail
    refine k.out.mono ?_
    rintro e w1 ⟨rfl, rfl⟩
    go_wp2_with fail
    go_ret
    exact ⟨rfl, HA.out⟩

def SzPost (gs : List Gs) (w : World) (e : Ending) (w' : World) : Prop :=
  (∃ r : Int, e = .returned (.int .i64 r) ∧ (r < 0 ∨ (0 ≤ r ∧ gs.length ≤ 1048576 ∧ ∀ j, j < gs.length → (gs.getD j gNil).code.length ≤ 1048576))) ∧ Below w.heap.size w w'

set_option maxHeartbeats 2000000 in
theorem szGuessS_any (v : Value) (gs : List Gs) (w : World) (h : RdG w v gs) :
    Calls Try.prog 24 #[v, .int .i64 1048576] w (SzPost gs w) := by
  obtain ⟨a, ca, rfl, hm, ha⟩ := h
  unfold maxLen at hm
  have HA := Lib.hid ha
  clear ha
  generalize hn : gs.length = n at *
  have HN := Lib.hid hn
  clear hn
  by_cases hbig : 1048576 < n
  · have hb : (1048576 : Int) - (n : Int) < 0 := by omega
    go_enter Try.func24, Try.ntmps24
    go_wp2_with fail
    go_ret
    exact ⟨⟨-1, rfl, .inl (by omega)⟩, Below.refl _ _⟩
  · have hb : ¬ (1048576 : Int) - (n : Int) < 0 := by omega
    have hb0 : (0 : Int) ≤ (1048576 : Int) - (n : Int) := by omega
    go_enter Try.func24, Try.ntmps24
    go_wp2_with fail
    go_loopw [1, 5] (fun vL q wr => ∃ (k : Nat) (L : Int), k ≤ n ∧ q = .int .i64 k ∧ vL = .int .i64 L ∧ 0 ≤ L ∧ L ≤ 1048576 ∧ Hid (∀ j, j < k → (gs.getD j gNil).code.length ≤ 1048576) ∧ Below w.heap.size w wr) (fun _ q _ => n - (intOf q).toNat)
    case atStart => exact ⟨0, _, by omega, rfl, rfl, by omega, by omega, fun j hj => by omega, Below.refl _ _⟩
    case round =>
      obtain ⟨k, L, hk, rfl, rfl, hL0, hL1, HP, hbel⟩ := hrel
      by_cases hlt : k < n
      · have hne : gs ≠ [] := by intro e; have := HN.out; rw [e] at this; simp at this; omega
        obtain ⟨g, off, rfl, hc⟩ := HA.out hne
        obtain ⟨u, h1, hru, h2, h3⟩ := hc k hlt
        have hg := World.block_lt_of_cell? w _ h1
        have c1 := (hbel.cell (p := ⟨g, off + k * 3, none⟩) hg).trans h1
        have c2 := (hbel.cell (p := ⟨g, off + k * 3 + 1, none⟩) hg).trans h2
        have c3 := (hbel.cell (p := ⟨g, off + k * 3 + 2, none⟩) hg).trans h3
        have K := Lib.hid (szGuess_any u (gs.getD k gNil) L wr (hru.below hbel) hL0 hL1)
        obtain ⟨x, cx, rfl, _, _⟩ := hru
        have HPK : Hid ((gs.getD k gNil).code.length ≤ 1048576 → ∀ j, j < k + 1 → (gs.getD j gNil).code.length ≤ 1048576) := by
          intro hb j hj
          by_cases e : j = k
          · rw [e]; exact hb
          · exact HP.out j (by omega)
        generalize (gs.getD k gNil).right = r at *
        generalize (gs.getD k gNil).near = q at *
        generalize (gs.getD k gNil).code.length = lk at *
        have HB := Lib.hid hbel
        have hi0 : (0 : Int) ≤ (k : Int) := by omega
        have hi1 : (k : Int) < (n : Int) := by omega
        clear hc hne h1 h2 h3 HP hbel
        obtain ⟨S, hS⟩ : ∃ S : Int, S = if L < (lk : Int) then -1 else L - lk := ⟨_, rfl⟩
        rw [← hS] at K
        have hS1 : -1 ≤ S ∧ S ≤ 1048576 := by rw [hS]; split <;> omega
        have hS2 : ¬ S < 0 → lk ≤ 1048576 := by rw [hS]; split <;> omega
        clear hS
        by_cases hneg : S < 0
        · clear hS2
          go_wp2_with fail
          refine K.out.mono ?_
          rintro e w1 ⟨rfl, hb1⟩
          have HB1 := Lib.hid (HB.out.trans (hb1.mono HB.out.size))
          clear hb1
          go_wp2_with fail
          go_ret
          exact ⟨⟨-1, rfl, .inl (by omega)⟩, HB1.out⟩
        · have HP2 := Lib.hid (HPK.out (hS2 hneg))
          clear hS2
          go_wp2_with fail
          refine K.out.mono ?_
          rintro e w1 ⟨rfl, hb1⟩
          have HB1 := Lib.hid (HB.out.trans (hb1.mono HB.out.size))
          clear hb1
          go_wp2_with fail
          go_roundw
          case rel => exact ⟨k + 1, S, by omega, by go_num, rfl, by omega, by omega, HP2.out, HB1.out⟩
          case measure => simp [intOf]; omega
      · have hkn : k = n := by omega
        have HP2 : Hid (∀ j, j < gs.length → (gs.getD j gNil).code.length ≤ 1048576) := fun j hj => HP.out j (by rw [hkn, ← HN.out]; exact hj)
        have HB := Lib.hid hbel
        clear HP hbel hkn
        go_wp2_with fail
        go_ret
        exact ⟨⟨L, rfl, .inr ⟨hL0, by rw [HN.out]; omega, HP2.out⟩⟩, HB.out⟩

theorem Ow.setLow {w : World} {base B : Nat} {v : Value} {xs : List Int} (h : Ow w base v xs) (hB : B < base) (i : Nat) (x : Value) : Ow (w.setCell ⟨B, i, none⟩ x) base v xs := by
  refine h.grown (grownBy_set (World.grownBy.refl _ _) i x) ?_
  cases hb : blockOf v xs with
  | none => exact .inl rfl
  | some b => right; intro e; injection e with e; have := h.block_ge b hb; omega

def ToPost (g : Gs) (W : World) (e : Ending) (w' : World) : Prop := (∃ u, e = .returned (.agg #[u, .int .i64 g.right, .int .i64 g.near]) ∧ Ow w' W.heap.size u g.code) ∧ Below W.heap.size W w'

set_option maxHeartbeats 1000000 in
theorem toGuess_any (u : Value) (g : Gs) (W : World) (hr : Rd W u g.code) (hl : g.code.length ≤ 1048576) :
    Calls Try.prog 49 #[.agg #[u, .int .i64 g.right, .int .i64 g.near]] W (ToPost g W) := by
  obtain ⟨code, r, n⟩ := g
  simp only at hr hl ⊢
  obtain ⟨W3, hW3⟩ : ∃ W3, W3 = ((W.alloc (.cells #[u, .int .i64 r, .int .i64 n] 63)).alloc (.cells #[.slice none 0 0, .int .i64 0, .int .i64 0] 55)).alloc (.cells #[.slice none 0 0, .int .i64 0, .int .i64 0] 55) := ⟨_, rfl⟩
  have hs3 : W3.heap.size = W.heap.size + 1 + 1 + 1 := by rw [hW3]; simp
  have hb3 : Below W.heap.size W W3 := by rw [hW3]; exact (((Below.refl _ _).alloc (Nat.le_refl _) _).alloc (by simp) _).alloc (by simp; omega) _
  have b2 : Below (W.heap.size + 1) (W.alloc (.cells #[u, .int .i64 r, .int .i64 n] 63)) W3 := by rw [hW3]; exact ((Below.refl _ _).alloc (by simp) _).alloc (by simp) _
  have b1 : Below (W.heap.size + 2) ((W.alloc (.cells #[u, .int .i64 r, .int .i64 n] 63)).alloc (.cells #[.slice none 0 0, .int .i64 0, .int .i64 0] 55)) W3 := by rw [hW3]; exact (Below.refl _ _).alloc (by simp) _
  have p1 : W3.cell? ⟨W.heap.size, 1, none⟩ = some (.int .i64 r) := (b2.cell (p := ⟨W.heap.size, 1, none⟩) (by simp)).trans ((World.cell?_alloc_at _ _ _ _ rfl).trans rfl)
  have p2 : W3.cell? ⟨W.heap.size, 2, none⟩ = some (.int .i64 n) := (b2.cell (p := ⟨W.heap.size, 2, none⟩) (by simp)).trans ((World.cell?_alloc_at _ _ _ _ rfl).trans rfl)
  have q0 : W3.cell? ⟨W.heap.size + 1, 0, none⟩ = some (.slice none 0 0) := (b1.cell (p := ⟨W.heap.size + 1, 0, none⟩) (by simp)).trans ((World.cell?_alloc_at _ _ _ _ (by simp)).trans rfl)
  have q1 : W3.cell? ⟨W.heap.size + 1, 1, none⟩ = some (.int .i64 0) := (b1.cell (p := ⟨W.heap.size + 1, 1, none⟩) (by simp)).trans ((World.cell?_alloc_at _ _ _ _ (by simp)).trans rfl)
  have q2 : W3.cell? ⟨W.heap.size + 1, 2, none⟩ = some (.int .i64 0) := (b1.cell (p := ⟨W.heap.size + 1, 2, none⟩) (by simp)).trans ((World.cell?_alloc_at _ _ _ _ (by simp)).trans rfl)
  have qf : ∀ o, W3.frozen? ⟨W.heap.size + 1, o, none⟩ = false := fun o => (b1.frozen (p := ⟨W.heap.size + 1, o, none⟩) (by simp)).trans (World.frozen?_alloc_at _ _ _ _ (by simp))
  have r0 : W3.cell? ⟨W.heap.size + 1 + 1, 0, none⟩ = some (.slice none 0 0) := by rw [hW3]; exact (World.cell?_alloc_at _ _ _ _ (by simp)).trans rfl
  have r1 : W3.cell? ⟨W.heap.size + 1 + 1, 1, none⟩ = some (.int .i64 0) := by rw [hW3]; exact (World.cell?_alloc_at _ _ _ _ (by simp)).trans rfl
  have r2 : W3.cell? ⟨W.heap.size + 1 + 1, 2, none⟩ = some (.int .i64 0) := by rw [hW3]; exact (World.cell?_alloc_at _ _ _ _ (by simp)).trans rfl
  have rf : ∀ o, W3.frozen? ⟨W.heap.size + 1 + 1, o, none⟩ = false := fun o => by rw [hW3]; exact World.frozen?_alloc_at _ _ _ _ (by simp)
  have k := Lib.hid (toIntS_any u code W3 (hr.below hb3) hl)
  obtain ⟨x, cx, rfl, hm, _⟩ := hr
  generalize code.length = lk at *
  go_enter Try.func49, Try.ntmps49
  go_wp2_with fail
  rw [← hW3]
  refine k.out.mono ?_
  rintro e W4 ⟨u', rfl, o4, hb4⟩
  have P1 := (hb4.cell (p := ⟨W.heap.size, 1, none⟩) (show W.heap.size < W3.heap.size by omega)).trans p1
  have P2 := (hb4.cell (p := ⟨W.heap.size, 2, none⟩) (show W.heap.size < W3.heap.size by omega)).trans p2
  have Q0 := (hb4.cell (p := ⟨W.heap.size + 1, 0, none⟩) (show W.heap.size + 1 < W3.heap.size by omega)).trans q0
  have Q1 := (hb4.cell (p := ⟨W.heap.size + 1, 1, none⟩) (show W.heap.size + 1 < W3.heap.size by omega)).trans q1
  have Q2 := (hb4.cell (p := ⟨W.heap.size + 1, 2, none⟩) (show W.heap.size + 1 < W3.heap.size by omega)).trans q2
  have F0 := (hb4.frozen (p := ⟨W.heap.size + 1, 0, none⟩) (show W.heap.size + 1 < W3.heap.size by omega)).trans (qf 0)
  have F1 := (hb4.frozen (p := ⟨W.heap.size + 1, 1, none⟩) (show W.heap.size + 1 < W3.heap.size by omega)).trans (qf 1)
  have F2 := (hb4.frozen (p := ⟨W.heap.size + 1, 2, none⟩) (show W.heap.size + 1 < W3.heap.size by omega)).trans (qf 2)
  have R0 := (hb4.cell (p := ⟨W.heap.size + 1 + 1, 0, none⟩) (show W.heap.size + 1 + 1 < W3.heap.size by omega)).trans r0
  have R1 := (hb4.cell (p := ⟨W.heap.size + 1 + 1, 1, none⟩) (show W.heap.size + 1 + 1 < W3.heap.size by omega)).trans r1
  have R2 := (hb4.cell (p := ⟨W.heap.size + 1 + 1, 2, none⟩) (show W.heap.size + 1 + 1 < W3.heap.size by omega)).trans r2
  have G0 := (hb4.frozen (p := ⟨W.heap.size + 1 + 1, 0, none⟩) (show W.heap.size + 1 + 1 < W3.heap.size by omega)).trans (rf 0)
  have G1 := (hb4.frozen (p := ⟨W.heap.size + 1 + 1, 1, none⟩) (show W.heap.size + 1 + 1 < W3.heap.size by omega)).trans (rf 1)
  have G2 := (hb4.frozen (p := ⟨W.heap.size + 1 + 1, 2, none⟩) (show W.heap.size + 1 + 1 < W3.heap.size by omega)).trans (rf 2)
  have HO := Lib.hid o4
  have HB := Lib.hid (hb3.trans (hb4.mono hb3.size))
  have HS3 := Lib.hid hs3
  obtain ⟨x', cx', rfl, _, _⟩ := o4
  generalize code.length = lk' at *
  clear hb4 p1 p2 q0 q1 q2 qf r0 r1 r2 rf b1 b2 hb3 hW3 k hs3
  go_wp2_with fail
  refine bodyPost_ret (v := .agg #[.slice x' lk' cx', .int .i64 r, .int .i64 n]) (by simp [results, Try.results49, go_sem, Q0, Q1, Q2]) rfl ?_
  have hsz := HS3.out
  refine ⟨⟨_, rfl, ((((((HO.out.setLow (by omega) 0 _).setLow (by omega) 1 _).setLow (by omega) 2 _).setLow (by omega) 0 _).setLow (by omega) 1 _).setLow (by omega) 2 _).mono (by omega)⟩, ?_⟩
  exact (((((HB.out.setCell (p := ⟨W.heap.size + 1 + 1, 0, none⟩) (show W.heap.size ≤ W.heap.size + 1 + 1 by omega) _).setCell (p := ⟨W.heap.size + 1 + 1, 1, none⟩) (show W.heap.size ≤ W.heap.size + 1 + 1 by omega) _).setCell (p := ⟨W.heap.size + 1 + 1, 2, none⟩) (show W.heap.size ≤ W.heap.size + 1 + 1 by omega) _).setCell (p := ⟨W.heap.size + 1, 0, none⟩) (show W.heap.size ≤ W.heap.size + 1 by omega) _).setCell (p := ⟨W.heap.size + 1, 1, none⟩) (show W.heap.size ≤ W.heap.size + 1 by omega) _).setCell (p := ⟨W.heap.size + 1, 2, none⟩) (show W.heap.size ≤ W.heap.size + 1 by omega) _
end Go.Proofs.Ytkkjgcpkimjfkaa
