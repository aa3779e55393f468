/- The laws FnExactAfterYes, FnExactAfterNo. -/
import Derived.Test.YtfhklaoemfhamaaProg
import Derived.Test.YtfhklaoemfhamaaLies5
namespace Go.Proofs.Ytfhklaoemfhamaa
open Go.RowKit

theorem AY_len (xs qs : List Int) : (AY xs qs).length ≤ 3 := by
  unfold AY
  split
  · rename_i h; rw [fnl_length]; exact (SOk_in h).1.2
  · simp

set_option maxHeartbeats 4000000 in
theorem law_FnExactAfterYes (a0 : Option Addr) (len0 cap0 : Nat) (z0 : List Int) (a1 : Option Addr) (len1 cap1 : Nat) (z1 : List Int) (w : World) (w0 : IsRow .i64 w a0 len0 cap0 z0) (w1 : IsRow .i64 w a1 len1 cap1 z1) :
    Calls Try.prog 7 #[.slice a0 len0 cap0, .slice a1 len1 cap1] w fun e w' => e = .returned (.bool true) ∧ Below w.heap.size w w' := by
  obtain ⟨hr, hm, hlen⟩ := Rd.of_row w0
  obtain ⟨hs, hm1, hlen1⟩ := Rd.of_row w1
  clear w0 w1
  generalize z0.take len0 = xs at *
  generalize z1.take len1 = qs at *
  unfold maxLen at hm hm1
  by_cases hl : 1048576 < len0
  · go_enter Try.func7, Try.ntmps7
    go_wp2_with fail
    go_ret
    exact ⟨rfl, Below.refl _ _⟩
  · by_cases hl1 : 1048576 < len1
    · go_enter Try.func7, Try.ntmps7
      go_wp2_with fail
      go_ret
      exact ⟨rfl, Below.refl _ _⟩
    · have hx : xs.length ≤ 1048576 := by omega
      have hy : qs.length ≤ 1048576 := by omega
      clear hlen hm hlen1 hm1
      have hr0 := Lib.hid hr
      have hs0 := Lib.hid hs
      have hL := AY_len xs qs
      have c1 := Lib.hid (fun (v u : Value) (w : World) (h : Rd w v xs) (hq : Rd w u qs) => spec_AfterYes v u xs qs w h hq hx hy)
      have c2 := Lib.hid (fun (v u : Value) (w : World) (h : Rd w v xs) (hq : Rd w u qs) => impl_AfterYes v u xs qs w h hq hy)
      generalize AY xs qs = L at *
      clear hr hs
      go_enter Try.func7, Try.ntmps7
      go_wp2_with fail
      refine (toIntS_any _ xs _ hr0.out hx).mono ?_
      rintro e w1 ⟨u1, rfl, o1, hb1⟩
      have B1 := hb1
      go_wp2_with fail
      refine (toIntS_any _ qs _ (hs0.out.below B1) hy).mono ?_
      rintro e w2 ⟨u2, rfl, o2, hb2⟩
      have B2 := B1.trans (hb2.mono B1.size)
      go_wp2_with fail
      refine (c1.out _ _ _ (o1.below hb2).rd o2.rd).mono ?_
      rintro e w3 ⟨v0, rfl, v3, hb3⟩
      have B3 := B2.trans (hb3.mono B2.size)
      clear o1 o2
      go_wp2_with fail
      refine (toIntS_any _ xs _ (hr0.out.below B3) hx).mono ?_
      rintro e w4 ⟨x0, rfl, x4, hb4⟩
      have B4 := B3.trans (hb4.mono B3.size)
      have v4 := v3.below hb4
      go_wp2_with fail
      refine (toIntS_any _ qs _ (hs0.out.below B4) hy).mono ?_
      rintro e w5 ⟨x1, rfl, y5, hb5⟩
      have B5 := B4.trans (hb5.mono B4.size)
      have v5 := v4.below hb5
      have x5 := x4.below hb5
      go_wp2_with fail
      refine (c2.out _ _ _ x5.rd y5.rd).mono ?_
      rintro e w6 ⟨g0, rfl, g6, hb6⟩
      have B6 := B5.trans (hb6.mono B5.size)
      have v6 := v5.below hb6
      have x6 := x5.below hb6
      have y6 := y5.below hb6
      go_wp2_with fail
      refine (eqIntS_yes _ _ L _ g6.rd v6.rd).mono ?_
      rintro e w7 ⟨rfl, hb7⟩
      have B7 := B6.trans (hb7.mono B6.size)
      have v7 := v6.below hb7
      have x7 := x6.below hb7
      have y7 := y6.below hb7
      have g7 := g6.below hb7
      go_wp2_with fail
      refine (toIntS_any _ xs _ (hr0.out.below B7) hx).mono ?_
      rintro e w8 ⟨t8, rfl, s8, hb8⟩
      have B8 := B7.trans (hb8.mono B7.size)
      have v8 := v7.below hb8
      have x8 := x7.below hb8
      have y8 := y7.below hb8
      have g8 := g7.below hb8
      go_wp2_with fail
      refine (eqIntS_yes _ _ xs _ x8.rd s8.rd).mono ?_
      rintro e w9 ⟨rfl, hb9⟩
      have B9 := B8.trans (hb9.mono B8.size)
      have v9 := v8.below hb9
      have x9 := x8.below hb9
      have y9 := y8.below hb9
      have g9 := g8.below hb9
      clear s8
      go_wp2_with fail
      refine (toIntS_any _ qs _ (hs0.out.below B9) hy).mono ?_
      rintro e w10 ⟨t10, rfl, s10, hb10⟩
      have B10 := B9.trans (hb10.mono B9.size)
      have v10 := v9.below hb10
      have x10 := x9.below hb10
      have y10 := y9.below hb10
      have g10 := g9.below hb10
      go_wp2_with fail
      refine (eqIntS_yes _ _ qs _ y10.rd s10.rd).mono ?_
      rintro e w11 ⟨rfl, hb11⟩
      have B11 := B10.trans (hb11.mono B10.size)
      have v11 := v10.below hb11
      have x11 := x10.below hb11
      have y11 := y10.below hb11
      have g11 := g10.below hb11
      clear s10
      -- the marks into the arguments' copies
      have q1 := hb1.size
      have q2 := hb2.size
      have q3 := hb3.size
      have q4 := hb4.size
      have q5 := hb5.size
      have q6 := hb6.size
      have lv := v3.rd.block_lt
      have lx := x4.rd.block_lt
      have ly := y5.rd.block_lt
      have gx := x4.block_ge
      have gy := y5.block_ge
      have gg := g6.block_ge
      clear v3 v4 v5 v6 v7 v8 v9 v10 x4 x5 x6 x7 x8 x9 x10 y5 y6 y7 y8 y9 y10 g6 g7 g8 g9 g10 B1 B2 B3 B4 B5 B6 B7 B8 B9 B10 hb1 hb2 hb3 hb4 hb5 hb6 hb7 hb8 hb9 hb10 hb11
      have LV := Lib.hid lv
      have LX := Lib.hid lx
      have LY := Lib.hid ly
      have GX := Lib.hid gx
      have GY := Lib.hid gy
      have GG := Lib.hid gg
      clear lv lx ly gx gy gg
      go_wp2_with fail
      refine (markIntS_any _ _ xs _ _ x11 (by omega) (by omega)).mono ?_
      rintro e w12 ⟨rfl, _, hg12⟩
      have B12 : Below w.heap.size w w12 := B11.grown hg12 B11.size (fun k hk => by have := GX.out k hk; omega)
      have v12 := v11.grown hg12 (apart_blocks LV.out GX.out)
      have y12 := y11.grown hg12 (apart_blocks' LX.out GY.out)
      have g12 := g11.grown hg12 (apart_blocks' (B := w5.heap.size) (fun b hb => by have := LX.out b hb; omega) GG.out)
      clear hg12 v11 x11 y11 g11 B11
      go_wp2_with fail
      refine (markIntS_any _ _ qs _ _ y12 (by omega) (by omega)).mono ?_
      rintro e w13 ⟨rfl, _, hg13⟩
      have B13 : Below w.heap.size w w13 := B12.grown hg13 B12.size (fun k hk => by have := GY.out k hk; omega)
      have v13 := v12.grown hg13 (apart_blocks (B := w4.heap.size) (fun b hb => by have := LV.out b hb; omega) GY.out)
      have g13 := g12.grown hg13 (apart_blocks' LY.out GG.out)
      clear hg13 v12 y12 g12 B12
      have hk0 : ¬ (1 + (xs.length : Int) + (qs.length : Int) < 0) := by omega
      go_wp2_with fail
      refine (eqIntS_yes _ _ L _ g13.rd v13.rd).mono ?_
      rintro e w14 ⟨rfl, hb14⟩
      have B14 := B13.trans (hb14.mono B13.size)
      have v14 := v13.below hb14
      have g14 := g13.below hb14
      clear v13 g13 B13 hb14
      go_wp2_with fail
      refine (markIntS_any _ _ L _ _ g14 (by omega) (by omega)).mono ?_
      rintro e w15 ⟨rfl, g15, hg15⟩
      have B15 : Below w.heap.size w w15 := B14.grown hg15 B14.size (fun k hk => by have := GG.out k hk; omega)
      have v15 := v14.grown hg15 (apart_blocks (B := w5.heap.size) (fun b hb => by have := LV.out b hb; omega) GG.out)
      clear hg15 v14 g14 B14
      go_wp2_with fail
      refine (heldIntS_yes _ _ _ _ g15.rd (by omega) (by omega)).mono ?_
      rintro e w16 ⟨rfl, hb16⟩
      have B16 := B15.trans (hb16.mono B15.size)
      have v16 := v15.below hb16
      have g16 := g15.below hb16
      clear v15 g15 B15 hb16
      go_wp2_with fail
      refine (toIntS_any _ xs _ (hr0.out.below B16) hx).mono ?_
      rintro e w17 ⟨t17, rfl, s17, hb17⟩
      have B17 := B16.trans (hb17.mono B16.size)
      have v17 := v16.below hb17
      have g17 := g16.below hb17
      clear v16 g16 B16
      go_wp2_with fail
      refine (toIntS_any _ qs _ (hs0.out.below B17) hy).mono ?_
      rintro e w18 ⟨t18, rfl, s18, hb18⟩
      have B18 := B17.trans (hb18.mono B17.size)
      have v18 := v17.below hb18
      have g18 := g17.below hb18
      have s17' := s17.below hb18
      clear v17 g17 B17 s17
      go_wp2_with fail
      refine (c2.out _ _ _ s17'.rd s18.rd).mono ?_
      rintro e w19 ⟨h0, rfl, h19, hb19⟩
      have B19 := B18.trans (hb19.mono B18.size)
      have v19 := v18.below hb19
      have g19 := g18.below hb19
      clear v18 g18 B18 s18 s17'
      go_wp2_with fail
      refine (eqIntS_yes _ _ L _ h19.rd v19.rd).mono ?_
      rintro e w20 ⟨rfl, hb20⟩
      have B20 := B19.trans (hb20.mono B19.size)
      have g20 := g19.below hb20
      clear v19 g19 B19
      go_wp2_with fail
      refine (heldIntS_yes _ _ _ _ g20.rd (by omega) (by omega)).mono ?_
      rintro e w21 ⟨rfl, hb21⟩
      have B21 := B20.trans (hb21.mono B20.size)
      go_wp2_with fail
      go_ret
      exact ⟨rfl, B21⟩

theorem AN_len (xs qs : List Int) : (AN xs qs).length ≤ 3 := by
  unfold AN
  split
  · rename_i h; rw [fnl_length]; exact (SOk_in h).1.2
  · simp

set_option maxHeartbeats 4000000 in
theorem law_FnExactAfterNo (a0 : Option Addr) (len0 cap0 : Nat) (z0 : List Int) (a1 : Option Addr) (len1 cap1 : Nat) (z1 : List Int) (w : World) (w0 : IsRow .i64 w a0 len0 cap0 z0) (w1 : IsRow .i64 w a1 len1 cap1 z1) :
    Calls Try.prog 8 #[.slice a0 len0 cap0, .slice a1 len1 cap1] w fun e w' => e = .returned (.bool true) ∧ Below w.heap.size w w' := by
  obtain ⟨hr, hm, hlen⟩ := Rd.of_row w0
  obtain ⟨hs, hm1, hlen1⟩ := Rd.of_row w1
  clear w0 w1
  generalize z0.take len0 = xs at *
  generalize z1.take len1 = qs at *
  unfold maxLen at hm hm1
  by_cases hl : 1048576 < len0
  · go_enter Try.func8, Try.ntmps8
    go_wp2_with fail
    go_ret
    exact ⟨rfl, Below.refl _ _⟩
  · by_cases hl1 : 1048576 < len1
    · go_enter Try.func8, Try.ntmps8
      go_wp2_with fail
      go_ret
      exact ⟨rfl, Below.refl _ _⟩
    · have hx : xs.length ≤ 1048576 := by omega
      have hy : qs.length ≤ 1048576 := by omega
      clear hlen hm hlen1 hm1
      have hr0 := Lib.hid hr
      have hs0 := Lib.hid hs
      have hL := AN_len xs qs
      have c1 := Lib.hid (fun (v u : Value) (w : World) (h : Rd w v xs) (hq : Rd w u qs) => spec_AfterNo v u xs qs w h hq hx hy)
      have c2 := Lib.hid (fun (v u : Value) (w : World) (h : Rd w v xs) (hq : Rd w u qs) => impl_AfterNo v u xs qs w h hq hy)
      generalize AN xs qs = L at *
      clear hr hs
      go_enter Try.func8, Try.ntmps8
      go_wp2_with fail
      refine (toIntS_any _ xs _ hr0.out hx).mono ?_
      rintro e w1 ⟨u1, rfl, o1, hb1⟩
      have B1 := hb1
      go_wp2_with fail
      refine (toIntS_any _ qs _ (hs0.out.below B1) hy).mono ?_
      rintro e w2 ⟨u2, rfl, o2, hb2⟩
      have B2 := B1.trans (hb2.mono B1.size)
      go_wp2_with fail
      refine (c1.out _ _ _ (o1.below hb2).rd o2.rd).mono ?_
      rintro e w3 ⟨v0, rfl, v3, hb3⟩
      have B3 := B2.trans (hb3.mono B2.size)
      clear o1 o2
      go_wp2_with fail
      refine (toIntS_any _ xs _ (hr0.out.below B3) hx).mono ?_
      rintro e w4 ⟨x0, rfl, x4, hb4⟩
      have B4 := B3.trans (hb4.mono B3.size)
      have v4 := v3.below hb4
      go_wp2_with fail
      refine (toIntS_any _ qs _ (hs0.out.below B4) hy).mono ?_
      rintro e w5 ⟨x1, rfl, y5, hb5⟩
      have B5 := B4.trans (hb5.mono B4.size)
      have v5 := v4.below hb5
      have x5 := x4.below hb5
      go_wp2_with fail
      refine (c2.out _ _ _ x5.rd y5.rd).mono ?_
      rintro e w6 ⟨g0, rfl, g6, hb6⟩
      have B6 := B5.trans (hb6.mono B5.size)
      have v6 := v5.below hb6
      have x6 := x5.below hb6
      have y6 := y5.below hb6
      go_wp2_with fail
      refine (eqIntS_yes _ _ L _ g6.rd v6.rd).mono ?_
      rintro e w7 ⟨rfl, hb7⟩
      have B7 := B6.trans (hb7.mono B6.size)
      have v7 := v6.below hb7
      have x7 := x6.below hb7
      have y7 := y6.below hb7
      have g7 := g6.below hb7
      go_wp2_with fail
      refine (toIntS_any _ xs _ (hr0.out.below B7) hx).mono ?_
      rintro e w8 ⟨t8, rfl, s8, hb8⟩
      have B8 := B7.trans (hb8.mono B7.size)
      have v8 := v7.below hb8
      have x8 := x7.below hb8
      have y8 := y7.below hb8
      have g8 := g7.below hb8
      go_wp2_with fail
      refine (eqIntS_yes _ _ xs _ x8.rd s8.rd).mono ?_
      rintro e w9 ⟨rfl, hb9⟩
      have B9 := B8.trans (hb9.mono B8.size)
      have v9 := v8.below hb9
      have x9 := x8.below hb9
      have y9 := y8.below hb9
      have g9 := g8.below hb9
      clear s8
      go_wp2_with fail
      refine (toIntS_any _ qs _ (hs0.out.below B9) hy).mono ?_
      rintro e w10 ⟨t10, rfl, s10, hb10⟩
      have B10 := B9.trans (hb10.mono B9.size)
      have v10 := v9.below hb10
      have x10 := x9.below hb10
      have y10 := y9.below hb10
      have g10 := g9.below hb10
      go_wp2_with fail
      refine (eqIntS_yes _ _ qs _ y10.rd s10.rd).mono ?_
      rintro e w11 ⟨rfl, hb11⟩
      have B11 := B10.trans (hb11.mono B10.size)
      have v11 := v10.below hb11
      have x11 := x10.below hb11
      have y11 := y10.below hb11
      have g11 := g10.below hb11
      clear s10
      -- the marks into the arguments' copies
      have q1 := hb1.size
      have q2 := hb2.size
      have q3 := hb3.size
      have q4 := hb4.size
      have q5 := hb5.size
      have q6 := hb6.size
      have lv := v3.rd.block_lt
      have lx := x4.rd.block_lt
      have ly := y5.rd.block_lt
      have gx := x4.block_ge
      have gy := y5.block_ge
      have gg := g6.block_ge
      clear v3 v4 v5 v6 v7 v8 v9 v10 x4 x5 x6 x7 x8 x9 x10 y5 y6 y7 y8 y9 y10 g6 g7 g8 g9 g10 B1 B2 B3 B4 B5 B6 B7 B8 B9 B10 hb1 hb2 hb3 hb4 hb5 hb6 hb7 hb8 hb9 hb10 hb11
      have LV := Lib.hid lv
      have LX := Lib.hid lx
      have LY := Lib.hid ly
      have GX := Lib.hid gx
      have GY := Lib.hid gy
      have GG := Lib.hid gg
      clear lv lx ly gx gy gg
      go_wp2_with fail
      refine (markIntS_any _ _ xs _ _ x11 (by omega) (by omega)).mono ?_
      rintro e w12 ⟨rfl, _, hg12⟩
      have B12 : Below w.heap.size w w12 := B11.grown hg12 B11.size (fun k hk => by have := GX.out k hk; omega)
      have v12 := v11.grown hg12 (apart_blocks LV.out GX.out)
      have y12 := y11.grown hg12 (apart_blocks' LX.out GY.out)
      have g12 := g11.grown hg12 (apart_blocks' (B := w5.heap.size) (fun b hb => by have := LX.out b hb; omega) GG.out)
      clear hg12 v11 x11 y11 g11 B11
      go_wp2_with fail
      refine (markIntS_any _ _ qs _ _ y12 (by omega) (by omega)).mono ?_
      rintro e w13 ⟨rfl, _, hg13⟩
      have B13 : Below w.heap.size w w13 := B12.grown hg13 B12.size (fun k hk => by have := GY.out k hk; omega)
      have v13 := v12.grown hg13 (apart_blocks (B := w4.heap.size) (fun b hb => by have := LV.out b hb; omega) GY.out)
      have g13 := g12.grown hg13 (apart_blocks' LY.out GG.out)
      clear hg13 v12 y12 g12 B12
      have hk0 : ¬ (1 + (xs.length : Int) + (qs.length : Int) < 0) := by omega
      go_wp2_with fail
      refine (eqIntS_yes _ _ L _ g13.rd v13.rd).mono ?_
      rintro e w14 ⟨rfl, hb14⟩
      have B14 := B13.trans (hb14.mono B13.size)
      have v14 := v13.below hb14
      have g14 := g13.below hb14
      clear v13 g13 B13 hb14
      go_wp2_with fail
      refine (markIntS_any _ _ L _ _ g14 (by omega) (by omega)).mono ?_
      rintro e w15 ⟨rfl, g15, hg15⟩
      have B15 : Below w.heap.size w w15 := B14.grown hg15 B14.size (fun k hk => by have := GG.out k hk; omega)
      have v15 := v14.grown hg15 (apart_blocks (B := w5.heap.size) (fun b hb => by have := LV.out b hb; omega) GG.out)
      clear hg15 v14 g14 B14
      go_wp2_with fail
      refine (heldIntS_yes _ _ _ _ g15.rd (by omega) (by omega)).mono ?_
      rintro e w16 ⟨rfl, hb16⟩
      have B16 := B15.trans (hb16.mono B15.size)
      have v16 := v15.below hb16
      have g16 := g15.below hb16
      clear v15 g15 B15 hb16
      go_wp2_with fail
      refine (toIntS_any _ xs _ (hr0.out.below B16) hx).mono ?_
      rintro e w17 ⟨t17, rfl, s17, hb17⟩
      have B17 := B16.trans (hb17.mono B16.size)
      have v17 := v16.below hb17
      have g17 := g16.below hb17
      clear v16 g16 B16
      go_wp2_with fail
      refine (toIntS_any _ qs _ (hs0.out.below B17) hy).mono ?_
      rintro e w18 ⟨t18, rfl, s18, hb18⟩
      have B18 := B17.trans (hb18.mono B17.size)
      have v18 := v17.below hb18
      have g18 := g17.below hb18
      have s17' := s17.below hb18
      clear v17 g17 B17 s17
      go_wp2_with fail
      refine (c2.out _ _ _ s17'.rd s18.rd).mono ?_
      rintro e w19 ⟨h0, rfl, h19, hb19⟩
      have B19 := B18.trans (hb19.mono B18.size)
      have v19 := v18.below hb19
      have g19 := g18.below hb19
      clear v18 g18 B18 s18 s17'
      go_wp2_with fail
      refine (eqIntS_yes _ _ L _ h19.rd v19.rd).mono ?_
      rintro e w20 ⟨rfl, hb20⟩
      have B20 := B19.trans (hb20.mono B19.size)
      have g20 := g19.below hb20
      clear v19 g19 B19
      go_wp2_with fail
      refine (heldIntS_yes _ _ _ _ g20.rd (by omega) (by omega)).mono ?_
      rintro e w21 ⟨rfl, hb21⟩
      have B21 := B20.trans (hb21.mono B20.size)
      go_wp2_with fail
      go_ret
      exact ⟨rfl, B21⟩
end Go.Proofs.Ytfhklaoemfhamaa
