/- impl.routes, whole. -/
import Derived.Test.YtanhdnbjepjhlaaProg
import Derived.Test.YtanhdnbjepjhlaaTreeE
namespace Go.Proofs.Ytanhdnbjepjhlaa
open Go.RowKit

set_option maxHeartbeats 4000000 in
theorem routes_any (f : Nat) : ∀ (s : ByteArray) (va : Value) (ans : List Int) (D : M) (m B : Nat) (w : World), s.size < f → s.size ≤ 1000 → ans.length + s.size ≤ 1000 → m + s.size ≤ 1000 → Rd w va ans → MM w B m D →
    Calls Try.prog 33 #[.string s, va, .map (some B)] w (RPost (rt f s.data.toList ans D m) B w) := by
  induction f with
  | zero => intro s va ans D m B w h; omega
  | succ f ih =>
    intro s va ans D m B w hf hs hal hm hans hM
    cases hl : s.data.toList with
    | nil =>
      obtain rfl := str_nil hl
      have hX : rt (f + 1) [] ans D m = ⟨[], false, D, m⟩ := rfl
      rw [hX]
      clear hX hl ih
      have HM := Lib.hid hM
      clear hM hans
      go_enter Try.func33, Try.ntmps33
      go_wp2_with fail
      go_ret2
      exact rpost_ok rfl rfl HM.out (World.grownBy.refl _ _)
    | cons c r =>
      by_cases hc : c = 40
      · subst hc
        have hz : 1 ≤ s.size := by rw [← len_str, hl]; simp
        have hz0 : 0 < s.size := hz
        have hs0 : s[0] = 40 := by
          have := drop_str s 0 hz0
          rw [List.drop_zero, hl] at this
          injection this with e _
          exact e.symm
        have hne : (s.toList == []) = false := by rw [ByteArray.toList_eq, hl]; rfl
        have hx : (s.extract 1 s.size).data.toList = r := by rw [extract_one s hz, hl]; rfl
        have hxs : (s.extract 1 s.size).size + 1 = s.size := by rw [← len_str, hx, ← len_str s, hl]; simp
        have hrl : r.length + 1 = s.size := by rw [← len_str s, hl]; simp
        obtain ⟨X, hX⟩ : ∃ X, rt f r (ans ++ [1]) D m = X := ⟨_, rfl⟩
        have hXl := rt_len f r (ans ++ [1]) D m
        rw [hX] at hXl
        obtain ⟨hXl1, hXl2⟩ := hXl
        obtain ⟨b1, hb1⟩ : ∃ b1, X.ok = b1 := ⟨_, rfl⟩
        have K1 := Lib.hid (fun va' w' (h1 : Rd w' va' (ans ++ [1])) (h2 : MM w' B m D) => ih (s.extract 1 s.size) va' (ans ++ [1]) D m B w' (by omega) (by omega) (by simp; omega) (by omega) h1 h2)
        rw [hx, hX] at K1
        have k1 : ∀ va' w', Rd w' va' (ans ++ [1]) → MM w' B m D → Calls Try.prog 33 #[.string (s.extract 1 s.size), va', .map (some B)] w' fun e w'' => ∃ s', e = .returned (.tuple #[.string s', .bool b1]) ∧ s'.data.toList = X.rest ∧ MM w'' B X.n X.D ∧ w'.grownBy w'' (some B) := by
          intro va' w' h1 h2
          refine (K1.out va' w' h1 h2).mono ?_
          rintro e w'' ⟨s', h3, h4⟩
          exact ⟨s', by rw [h3, hb1], h4⟩
        have HK1 := Lib.hid k1
        have HM := Lib.hid hM
        have HR := Lib.hid hans
        have HI := Lib.hid ih
        have HL := Lib.hid hl
        have HX := Lib.hid hX
        have HB1 := Lib.hid hb1
        have hBlt := hM.lt
        have hL1 : ans.length < 1000000000 := by omega
        obtain ⟨RS, hRS⟩ : ∃ RS, RS = rt (f + 1) (40 :: r) ans D m := ⟨_, rfl⟩
        rw [← hRS]
        have HRS := Lib.hid hRS
        clear k1 K1 hM hans ih hl hX hb1 hx hRS
        go_enter Try.func33, Try.ntmps33
        go_wp2_with fail
        go_quiet (fail)
        generalize hw0 : w.drewN _ = w0
        have HM0 := Lib.hid (show MM w0 B m D by rw [← hw0]; exact HM.out)
        have HR0 := Lib.hid (show Rd w0 va ans by rw [← hw0]; exact HR.out)
        have HG0 := Lib.hid (show Below w.heap.size w w0 by rw [← hw0]; exact below_drewN (Below.refl _ _) _)
        have hBlt0 : B < w0.heap.size := HM0.out.lt
        clear hw0 HM HR hBlt
        go_wp2_with fail
        refine wp_loop_rounds 3 ?_
        rw [rounds_succ]
        go_wp2_with fail
        have ha1 : Below w0.heap.size w0 (w0.alloc (.cells #[.int .i64 1, .int .i64 0] 3)) := (Below.refl _ _).alloc (Nat.le_refl _) _
        refine (clone_owns _ ans _ (HR0.out.below ha1) (by omega)).mono ?_
        rintro e w1 ⟨u1, rfl, hown1, hb1⟩
        have hs1 := hb1.size
        have c1 := (hb1.cell (p := ⟨w0.heap.size, 1, none⟩) (by simp)).trans (show (w0.alloc (.cells #[.int .i64 1, .int .i64 0] 3)).cell? ⟨w0.heap.size, 1, none⟩ = some (.int .i64 0) by simp)
        have C1 := Lib.hid c1
        have G1 := Lib.hid (ha1.trans (hb1.mono (by simp)))
        have z1 : w0.heap.size < w1.heap.size := by simp at hs1; omega
        clear ha1 hb1 hs1 c1
        go_wp2_with (first | (at_builtin; (refine wpList_append_int _ rfl _ _ rfl _ _ ans 1 hown1 rfl rfl hL1 (by simp; omega) ?_); intro v2 w2 hown2 hb2))
        have V2 := (Ow.of_row hown2 (by simp only [maxLen]; simp; omega)).rd
        have hb2' : Below w0.heap.size w1 w2 := hb2.mono (by simp)
        have G2 := Lib.hid (G1.out.trans hb2')
        have c2 := (hb2.cell (p := ⟨w0.heap.size, 1, none⟩) (by simp)).trans C1.out
        have M2 := HM0.out.below G2.out
        have HC2 := Lib.hid c2
        clear hown1 hown2 hb2 hb2' c2 C1 G1
        refine (HK1.out v2 w2 V2 M2).mono ?_
        rintro e w3 ⟨s', rfl, hs', hM3, hg3⟩
        have c3 := hg3.cell (a := ⟨w0.heap.size, 1, none⟩) HC2.out (by simp; omega)
        have G3 := Lib.hid (grownBy_then2 (grownBy_any (some B) G2.out) hg3)
        have R3 := Lib.hid (HR0.out.overMM HM0.out G3.out)
        have HS' := Lib.hid hs'
        have HM3 := Lib.hid hM3
        clear V2 M2 HC2 hg3 G2 HK1 hs' hM3
        cases b1 with
        | false =>
          have hrt : RS = ⟨[], false, X.D, X.n⟩ := HRS.out.trans (rt_open0 HX.out HB1.out)
          have HRT := Lib.hid hrt
          clear hrt
          go_wp2_with fail
          go_ret2
          exact rpost_ok (by rw [HRT.out]) (by rw [HRT.out]) (by rw [HRT.out]; exact HM3.out) (grownBy_then2 (grownBy_any (some B) HG0.out) G3.out)
        | true =>
          have hss : s'.size = X.rest.length := by rw [← len_str, HS'.out]
          have HSS := Lib.hid hss
          obtain ⟨Y, hY⟩ : ∃ Y, rt f X.rest (ans ++ [0]) X.D X.n = Y := ⟨_, rfl⟩
          have hYl := rt_len f X.rest (ans ++ [0]) X.D X.n
          rw [hY] at hYl
          obtain ⟨hYl1, hYl2⟩ := hYl
          obtain ⟨b2, hb2⟩ : ∃ b2, Y.ok = b2 := ⟨_, rfl⟩
          have K2 := Lib.hid (fun va' w' (h1 : Rd w' va' (ans ++ [0])) (h2 : MM w' B X.n X.D) => HI.out s' va' (ans ++ [0]) X.D X.n B w' (by omega) (by omega) (by simp; omega) (by omega) h1 h2)
          rw [HS'.out, hY] at K2
          have k2 : ∀ va' w', Rd w' va' (ans ++ [0]) → MM w' B X.n X.D → Calls Try.prog 33 #[.string s', va', .map (some B)] w' fun e w'' => ∃ s'', e = .returned (.tuple #[.string s'', .bool b2]) ∧ s''.data.toList = Y.rest ∧ MM w'' B Y.n Y.D ∧ w'.grownBy w'' (some B) := by
            intro va' w' h1 h2
            refine (K2.out va' w' h1 h2).mono ?_
            rintro e w'' ⟨s'', h3, h4⟩
            exact ⟨s'', by rw [h3, hb2], h4⟩
          have HK2 := Lib.hid k2
          have HY := Lib.hid hY
          have HB2 := Lib.hid hb2
          have hBlt3 : B < w3.heap.size := HM3.out.lt
          clear hss k2 K2 hY hb2
          go_wp2_with fail
          rw [rounds_succ]
          go_wp2_with fail
          refine (clone_owns _ ans _ R3.out (by omega)).mono ?_
          rintro e w4 ⟨u4, rfl, hown4, hb4⟩
          go_wp2_with (first | (at_builtin; (refine wpList_append_int _ rfl _ _ rfl _ _ ans 0 hown4 rfl rfl hL1 hb4.size ?_); intro v5 w5 hown5 hb5))
          have V5 := (Ow.of_row hown5 (by simp only [maxLen]; simp; omega)).rd
          have G5 := Lib.hid (hb4.trans hb5)
          have M5 := HM3.out.below G5.out
          clear hown4 hown5 hb4 hb5
          refine (HK2.out v5 w5 V5 M5).mono ?_
          rintro e w6 ⟨s6, rfl, hs6, hM6, hg6⟩
          have G6 := Lib.hid (grownBy_then2 (grownBy_then G3.out (G5.out.mono G3.out.size)) hg6)
          have HS6 := Lib.hid hs6
          have HM6 := Lib.hid hM6
          have h6z : s6.size ≤ 1000 := by rw [← len_str, hs6]; omega
          clear V5 M5 hg6 HK2 hs6 hM6 G5 R3 HM3
          cases b2 with
          | false =>
            have hrt : RS = ⟨[], false, Y.D, Y.n⟩ := HRS.out.trans (rt_open1 HX.out HB1.out HY.out HB2.out)
            have HRT := Lib.hid hrt
            clear hrt
            go_wp2_with fail
            go_ret2
            exact rpost_ok (by rw [HRT.out]) (by rw [HRT.out]) (by rw [HRT.out]; exact HM6.out) (grownBy_then2 (grownBy_any (some B) HG0.out) G6.out)
          | true =>
            have hrt : RS = ⟨(cut Y.rest).1, (cut Y.rest).2, Y.D, Y.n⟩ := HRS.out.trans (rt_open2 HX.out HB1.out HY.out HB2.out)
            have HRT := Lib.hid hrt
            have KC := Lib.hid (fun w => cutPrefix_any s6 (by omega) w)
            rw [HS6.out] at KC
            obtain ⟨b3, hb3⟩ : ∃ b3, (cut Y.rest).2 = b3 := ⟨_, rfl⟩
            rw [hb3] at KC
            have HB3 := Lib.hid hb3
            clear hrt hb3
            go_wp2_with fail
            rw [rounds_succ]
            go_wp2_with fail
            refine (KC.out _).mono ?_
            rintro e w7 ⟨s7, rfl, hs7, rfl⟩
            have HS7 := Lib.hid hs7
            clear hs7
            go_wp2_with fail
            go_ret2
            exact rpost_ok (by rw [HRT.out]; exact HB3.out.symm) (by rw [HRT.out]; exact HS7.out) (by rw [HRT.out]; exact HM6.out) (grownBy_then2 (grownBy_any (some B) HG0.out) G6.out)
      · rw [rt_leaf hc]
        exact routes_leaf s c r hl hc hs va ans D m B w hans (by omega) hM (by omega)
end Go.Proofs.Ytanhdnbjepjhlaa
