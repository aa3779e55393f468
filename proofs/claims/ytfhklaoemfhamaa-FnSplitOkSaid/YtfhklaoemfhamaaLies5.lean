/- spec.AfterYes, spec.AfterNo. -/
import Derived.Test.YtfhklaoemfhamaaProg
import Derived.Test.YtfhklaoemfhamaaLies4
import Derived.Test.YtfhklaoemfhamaaStepApp
namespace Go.Proofs.Ytfhklaoemfhamaa
open Go.RowKit

theorem fnl_snoc (k : Nat) (f : Nat → Int) : fnl k f ++ [f k] = fnl (k + 1) f := by simp [fnl, List.range_succ]

set_option maxHeartbeats 1600000 in
theorem spec_AfterYes (v u : Value) (xs qs : List Int) (w : World) (h : Rd w v xs) (hq : Rd w u qs) (hxl : xs.length ≤ 1048576) (hql : qs.length ≤ 1048576) :
    Calls Try.prog 22 #[v, u] w fun e w' => ∃ r, e = .returned r ∧ Ow w' w.heap.size r (AY xs qs) ∧ Below w.heap.size w w' := by
  have hB0 : ∀ o, Below w.heap.size w (w.alloc o) := fun o => (Below.refl _ _).alloc (Nat.le_refl _) _
  have k := Lib.hid (spec_SplitOk v u xs qs (w.alloc (.cells #[] 3)) (h.below (hB0 _)) (hq.below (hB0 _)) hxl hql)
  have HB0 := Lib.hid (hB0 (.cells #[] 3))
  clear hB0
  cases hs : SOk xs qs with
  | false =>
    have e : AY xs qs = [] := by unfold AY; rw [hs]; rfl
    rw [e]
    rw [hs] at k
    clear e hs h hq
    go_enter Try.func22, Try.ntmps22
    go_wp2_with (first | (go_at_call 16; (with_reducible refine k.out.mono ?_); rintro e w1 ⟨rfl, hb⟩))
    go_ret
    exact ⟨_, rfl, Ow.nil _ _ _ _, HB0.out.trans (hb.mono (by simp))⟩
  | true =>
    have e : AY xs qs = fnl xs.length (aftF xs.length xs qs) := by unfold AY; rw [hs]; rfl
    rw [e]
    obtain ⟨hn, hl, hx, hy⟩ := SOk_in hs
    rw [hs] at k
    have hne : xs ≠ [] := by intro e; rw [e] at hn; simp at hn
    have hneq : qs ≠ [] := by intro e; rw [e] at hl; simp at hl; omega
    obtain ⟨gx, ox, cx, rfl, hgx, hcx⟩ := h.cells hne
    obtain ⟨gq, oq, cq, rfl, hgq, hcq⟩ := hq.cells hneq
    rw [hl] at hcq k ⊢
    have HCX := Lib.hid hcx
    have HCQ := Lib.hid hcq
    have HX := Lib.hid hx
    have HY := Lib.hid hy
    generalize hnn : xs.length = n at *
    obtain ⟨hn1, hn2⟩ := hn
    obtain ⟨B, hB⟩ : ∃ B, B = w.heap.size := ⟨_, rfl⟩
    have HB := Lib.hid hB
    clear e hs h hq hl hx hy hcx hcq hne hneq hnn hxl hql
    go_enter Try.func22, Try.ntmps22
    go_wp2_with (first | (go_at_call 16; (with_reducible refine k.out.mono ?_); rintro e w1 ⟨rfl, hb⟩))
    have hb1 : Below B w w1 := by rw [HB.out]; exact HB0.out.trans (hb.mono (by simp))
    have ho1 : w1.ownsRow B 3 1 (.slice (some ⟨B, 0, none⟩) 0 0) 0 [] := by
      rw [HB.out]; exact owns_below (World.ownsRow_made w #[] 0 (Nat.le_refl _) (by simp [maxLen]) (by simp)) (by simpa using hb)
    rw [← hB] at hgx hgq ⊢
    clear hb k HB0 hB
    go_loopw [5, 6] (fun out q wr => ∃ k : Nat, k ≤ n ∧ q = .int .i64 k ∧ wr.ownsRow B 3 1 out (fnl k (aftF n xs qs)).length ((fnl k (aftF n xs qs)).map (Value.int .i64)) ∧ Below B w wr) (fun _ q _ => n - (intOf q).toNat)
    case atStart => exact ⟨0, by omega, rfl, by simpa [fnl] using ho1, hb1⟩
    case round =>
      clear hb1 ho1
      obtain ⟨k, hk, rfl, hown, hbel⟩ := hrel
      have hsz : B ≤ wr.heap.size := by have := hbel.size; rw [HB.out]; exact this
      have hfl : (fnl k (aftF n xs qs)).length < 1000000000 := by rw [fnl_length]; omega
      by_cases hlt : k < n
      · have cq0 : wr.cell? ⟨gq, oq + k, none⟩ = some (.int .i64 (qs.getD k 0)) := (hbel.cell (p := ⟨gq, oq + k, none⟩) hgq).trans (HCQ.out k hlt)
        have hy0 := HY.out k hlt
        have hx0 := HX.out k hlt
        have hi0 : (0 : Int) ≤ (k : Int) := by omega
        have hi1 : (k : Int) < (n : Int) := by omega
        by_cases hlast : k + 1 < n
        · have cx1 : wr.cell? ⟨gx, ox + (k + 1), none⟩ = some (.int .i64 (xs.getD (k + 1) 0)) := (hbel.cell (p := ⟨gx, ox + (k + 1), none⟩) hgx).trans (HCX.out (k + 1) hlast)
          have cq1 : wr.cell? ⟨gq, oq + (k + 1), none⟩ = some (.int .i64 (qs.getD (k + 1) 0)) := (hbel.cell (p := ⟨gq, oq + (k + 1), none⟩) hgq).trans (HCQ.out (k + 1) hlast)
          have hy1 := HY.out (k + 1) hlast
          have hx1 := HX.out (k + 1) hlast
          have HF : Hid (aftF n xs qs k = qs.getD k 0 + xs.getD (k + 1) 0 - qs.getD (k + 1) 0) := by
            show _ = _
            unfold aftF; rw [if_pos hlast]; omega
          generalize qs.getD k 0 = y at *
          generalize qs.getD (k + 1) 0 = y1 at *
          generalize xs.getD (k + 1) 0 = x1 at *
          have a1 : IntKind.i64.wrap ((k : Int) + 1) = k + 1 := IntWalk.i64_in _ (by omega)
          have a2 : IntKind.i64.wrap (y + x1) = y + x1 := IntWalk.i64_in _ (by omega)
          have a3 : IntKind.i64.wrap (y + x1 - y1) = y + x1 - y1 := IntWalk.i64_in _ (by omega)
          have a4 : (0 : Int) ≤ (k : Int) + 1 := by omega
          have a5 : ((k : Int) + 1).toNat = k + 1 := by omega
          have a6 : (k : Int) + 1 < (n : Int) := by omega
          go_wp2_with fail
          go_quiet (fail)
          clear a1 a2 a3 a5
          have hown2 := owns_below hown (below_drewN (Below.refl wr.heap.size wr) nq)
          have hsz2 : B ≤ (wr.drewN nq).heap.size := hsz
          go_wp2_with (first | (at_builtin; go_loud (refine wpList_append_int _ rfl _ _ rfl B _ _ _ hown2 rfl rfl hfl hsz2 ?_); intro v2 w2 hown3 hb2))
          rw [← HF.out, fnl_snoc] at hown3
          go_roundw
          case rel => exact ⟨k + 1, by omega, by go_num, hown3, hbel.trans ((below_drewN (Below.refl _ _) _).trans hb2)⟩
          case measure => simp [intOf]; omega
        · have HF : Hid (aftF n xs qs k = qs.getD k 0) := by
            show _ = _
            unfold aftF; rw [if_neg hlast]; omega
          generalize qs.getD k 0 = y at *
          have a6 : ¬ (k : Int) + 1 < (n : Int) := by omega
          go_wp2_with (first | (at_builtin; (refine wpList_append_int _ rfl _ _ rfl B _ _ _ hown rfl rfl hfl hsz ?_); intro v2 w2 hown3 hb2))
          rw [← HF.out, fnl_snoc] at hown3
          go_roundw
          case rel => exact ⟨k + 1, by omega, by go_num, hown3, hbel.trans hb2⟩
          case measure => simp [intOf]; omega
      · have hkn : k = n := by omega
        have HK := Lib.hid hkn
        clear hkn
        go_wp2_with fail
        go_ret
        refine ⟨_, rfl, ?_, by rw [← HB.out]; exact hbel⟩
        have := Ow.of_row hown (by rw [fnl_length]; simp only [maxLen]; omega)
        rw [HK.out, HB.out] at this
        exact this

set_option maxHeartbeats 1600000 in
theorem spec_AfterNo (v u : Value) (xs qs : List Int) (w : World) (h : Rd w v xs) (hq : Rd w u qs) (hxl : xs.length ≤ 1048576) (hql : qs.length ≤ 1048576) :
    Calls Try.prog 26 #[v, u] w fun e w' => ∃ r, e = .returned r ∧ Ow w' w.heap.size r (AN xs qs) ∧ Below w.heap.size w w' := by
  have hB0 : ∀ o, Below w.heap.size w (w.alloc o) := fun o => (Below.refl _ _).alloc (Nat.le_refl _) _
  have ks := Lib.hid (fun w' (b : Below w.heap.size w w') => spec_SplitOk v u xs qs w' (h.below b) (hq.below b) hxl hql)
  have HB0 := Lib.hid (hB0 (.cells #[] 3))
  clear hB0
  cases hs : SOk xs qs with
  | false =>
    have e : AN xs qs = AY xs [] := by
      have h2 : SOk xs [] = false := by
        cases hk : KOk xs with
        | false => simp [SOk, hk]
        | true =>
          have := (KOk_len hk).1
          have h3 : decide (([] : List Int).length = xs.length) = false := decide_eq_false (by simp only [List.length_nil]; omega)
          simp only [SOk, h3, Bool.false_and, Bool.and_false]
      unfold AN AY; rw [hs, h2]; rfl
    rw [e]
    rw [hs] at ks
    have kf := Lib.hid (fun w' z (b : Below w.heap.size w w') (hz' : Rd w' z []) => spec_AfterYes v z xs [] w' (h.below b) hz' hxl (by simp))
    obtain ⟨a, ca, rfl, hm, _⟩ := h
    have k1 := Lib.hid (ks.out _ HB0.out)
    clear e hs hq hm
    by_cases hl : 0 < xs.length
    · go_enter Try.func26, Try.ntmps26
      go_wp2_with fail
      refine wp_loop_rounds 1 ?_
      rw [rounds_succ]
      go_wp2_with fail
      refine k1.out.mono ?_
      rintro e w1 ⟨rfl, hb⟩
      have hb1 := HB0.out.trans (hb.mono (by simp))
      go_wp2_with fail
      refine (kf.out _ _ hb1 (Rd.nil _ _ _)).mono ?_
      rintro e w3 ⟨r, rfl, o3, hb3⟩
      go_wp2_with fail
      go_ret
      exact ⟨_, rfl, o3.mono hb1.size, hb1.trans (hb3.mono hb1.size)⟩
    · go_enter Try.func26, Try.ntmps26
      go_wp2_with fail
      refine wp_loop_rounds 1 ?_
      rw [rounds_succ]
      go_wp2_with fail
      refine (kf.out _ _ HB0.out (Rd.nil _ _ _)).mono ?_
      rintro e w3 ⟨r, rfl, o3, hb3⟩
      go_wp2_with fail
      go_ret
      exact ⟨_, rfl, o3.mono HB0.out.size, HB0.out.trans (hb3.mono HB0.out.size)⟩
  | true =>
    have e : AN xs qs = AY xs (fnl xs.length (othF xs qs)) := by
      have h2 : SOk xs (fnl xs.length (othF xs qs)) = true := by
        obtain ⟨_, _, _, hy⟩ := SOk_in hs
        have hk : KOk xs = true := by simp only [SOk, Bool.and_eq_true] at hs; exact hs.1
        simp only [SOk, Bool.and_eq_true, decide_eq_true_eq]
        refine ⟨hk, fnl_length _ _, fun j hj => ?_⟩
        rw [fnl_length] at hj
        rw [fnl_getD _ _ _ hj]
        have := hy j hj
        unfold othF; omega
      unfold AN AY; rw [hs, h2]
    rw [e]
    obtain ⟨hn, hl, hx, hy⟩ := SOk_in hs
    rw [hs] at ks
    have hne : xs ≠ [] := by intro e; rw [e] at hn; simp at hn
    have hneq : qs ≠ [] := by intro e; rw [e] at hl; simp at hl; omega
    obtain ⟨gx, ox, cx, rfl, hgx, hcx⟩ := h.cells hne
    obtain ⟨gq, oq, cq, rfl, hgq, hcq⟩ := hq.cells hneq
    have kf := Lib.hid (fun w' z (b : Below w.heap.size w w') (hz' : Rd w' z (fnl xs.length (othF xs qs))) => spec_AfterYes _ z xs (fnl xs.length (othF xs qs)) w' (h.below b) hz' hxl (by rw [fnl_length]; exact hxl))
    rw [hl] at hcq ks ⊢
    have HCX := Lib.hid hcx
    have HCQ := Lib.hid hcq
    have HX := Lib.hid hx
    have HY := Lib.hid hy
    generalize hnn : xs.length = n at *
    obtain ⟨hn1, hn2⟩ := hn
    obtain ⟨B, hB⟩ : ∃ B, B = w.heap.size := ⟨_, rfl⟩
    have HB := Lib.hid hB
    clear e hs h hq hl hx hy hcx hcq hne hneq hnn hxl hql
    go_enter Try.func26, Try.ntmps26
    go_wp2_with fail
    have hb1 : Below B w (w.alloc (.cells #[] 3)) := by rw [HB.out]; exact HB0.out
    have ho1 : (w.alloc (.cells #[] 3)).ownsRow B 3 1 (.slice (some ⟨B, 0, none⟩) 0 0) 0 [] := by
      rw [HB.out]; exact World.ownsRow_made w #[] 0 (Nat.le_refl _) (by simp [maxLen]) (by simp)
    rw [← hB] at hgx hgq ks ⊢
    clear HB0 hB
    go_loopw [5, 6] (fun out q wr => ∃ k : Nat, k ≤ n ∧ q = .int .i64 k ∧ wr.ownsRow B 3 1 out (fnl k (othF xs qs)).length ((fnl k (othF xs qs)).map (Value.int .i64)) ∧ Below B w wr) (fun _ q _ => n - (intOf q).toNat)
    case atStart => exact ⟨0, by omega, rfl, by simpa [fnl] using ho1, hb1⟩
    case round =>
      clear hb1 ho1
      obtain ⟨k, hk, rfl, hown, hbel⟩ := hrel
      have hsz : B ≤ wr.heap.size := by have := hbel.size; rw [HB.out]; exact this
      have hfl : (fnl k (othF xs qs)).length < 1000000000 := by rw [fnl_length]; omega
      by_cases hlt : k < n
      · have cq0 : wr.cell? ⟨gq, oq + k, none⟩ = some (.int .i64 (qs.getD k 0)) := (hbel.cell (p := ⟨gq, oq + k, none⟩) hgq).trans (HCQ.out k hlt)
        have cx0 : wr.cell? ⟨gx, ox + k, none⟩ = some (.int .i64 (xs.getD k 0)) := (hbel.cell (p := ⟨gx, ox + k, none⟩) hgx).trans (HCX.out k hlt)
        have hy0 := HY.out k hlt
        have hx0 := HX.out k hlt
        have kk := Lib.hid (ks.out wr hbel)
        have hi0 : (0 : Int) ≤ (k : Int) := by omega
        have hi1 : (k : Int) < (n : Int) := by omega
        have HF : Hid (othF xs qs k = xs.getD k 0 - qs.getD k 0) := rfl
        generalize qs.getD k 0 = y at *
        generalize xs.getD k 0 = x at *
        have a1 : IntKind.i64.wrap (x - y) = x - y := IntWalk.i64_in _ (by omega)
        go_wp2_with (first | (go_at_call 16; (with_reducible refine kk.out.mono ?_); rintro e w1 ⟨rfl, hb⟩; have cq1 := (hb.cell (p := ⟨gq, oq + k, none⟩) (World.block_lt_of_cell? wr _ cq0)).trans cq0; have cx1 := (hb.cell (p := ⟨gx, ox + k, none⟩) (World.block_lt_of_cell? wr _ cx0)).trans cx0; clear cq0 cx0))
        have hown1 := owns_below hown hb
        have hsz1 : B ≤ w1.heap.size := Nat.le_trans hsz hb.size
        go_region_held3 (fun w' => w'.cell? ⟨gx, ox + k, none⟩ = some (.int .i64 x) ∧ w'.cell? ⟨gq, oq + k, none⟩ = some (.int .i64 y))
          (first | go_keep | (go_split_ands; exact ⟨(hb2.cell (p := ⟨gx, ox + k, none⟩) hgx).trans cx1, (hb2.cell (p := ⟨gq, oq + k, none⟩) hgq).trans cq1⟩))
          (first | (refine step_append_int w1 (by rfl) _ _ (by rfl) B _ _ (x - y) hown1 (by rfl) (by rfl) hfl hsz1 (((Below.refl _ _).alloc (Nat.le_refl _) _).drew) (by simp) (heap_alloc_new w1 _) ?_; intro v2 w2 hown2 hb2))
        go_wp2_with fail
        rw [← HF.out, fnl_snoc] at hown2
        go_roundw
        case rel => exact ⟨k + 1, by omega, by go_num, hown2, hbel.trans ((hb.mono hsz).trans hb2)⟩
        case measure => simp [intOf]; omega
      · have hkn : k = n := by omega
        have HK := Lib.hid hkn
        clear hkn
        have ho2 := Ow.of_row hown (by rw [fnl_length]; simp only [maxLen]; omega)
        rw [HK.out, HB.out] at ho2
        have hb2 : Below w.heap.size w wr := by rw [← HB.out]; exact hbel
        have HO := Lib.hid ho2
        clear ho2 hown
        go_wp2_with fail
        refine (kf.out wr _ hb2 HO.out.rd).mono ?_
        rintro e w3 ⟨r, rfl, o3, hb3⟩
        go_wp2_with fail
        go_ret
        exact ⟨_, rfl, o3.mono hb2.size, hb2.trans (hb3.mono hb2.size)⟩
end Go.Proofs.Ytfhklaoemfhamaa
