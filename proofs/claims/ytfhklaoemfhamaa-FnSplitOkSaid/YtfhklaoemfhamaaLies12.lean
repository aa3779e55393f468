/- The law FnSplitOk. -/
import Derived.Test.YtfhklaoemfhamaaProg
import Derived.Test.YtfhklaoemfhamaaLies11
import Derived.Deep.RegionWith
namespace Go.Proofs.Ytfhklaoemfhamaa
open Go.RowKit

set_option maxHeartbeats 2000000 in
theorem draw_SplitOk (a : Option Addr) (len cap : Nat) (w : World) (h : Code8 w a len cap) :
    Calls Try.prog 30 #[.slice a len cap] w fun e w' => ∃ (v u : Value) (L Q : List Int), e = .returned (.tuple #[v, u]) ∧ w'.ownsRow w.heap.size 3 1 v L.length (L.map (Value.int .i64)) ∧
      w'.ownsRow w.heap.size 3 1 u Q.length (Q.map (Value.int .i64)) ∧ L.length ≤ 3 ∧ Q.length ≤ 4 ∧ Below w.heap.size w w' := by
  go_enter Try.func30, Try.ntmps30
  go_wp2_with fail
  refine (open_any a len cap w h).mono ?_
  rintro e w1 ⟨rfl, hr, hb⟩
  have hlt := hr.lt
  have hrU := hr.toU
  clear hr
  go_wp2_with fail
  refine (split_any w.heap.size 0 (by omega) w1 hrU).mono ?_
  rintro e w2 ⟨v, u, L, Q, B2, rfl, hB2, hv, hvb, hu, hL, hQ, hr2, hg2⟩
  have HVB := Lib.hid hvb
  have hs1 := hb.size
  obtain ⟨au, cu, rfl, _⟩ := Ow.of_row hu (by simp only [maxLen]; omega)
  clear hrU hvb
  go_wp2_with fail
  refine (odd_u w.heap.size (0 + 15) 4 (by omega) (by omega) (by omega) _ B2 hr2).mono ?_
  rintro e w3 ⟨b, rfl, hr3, hg3⟩
  have HV := Lib.hid (owns_grown hv hg3 hlt)
  have HU := Lib.hid (owns_grown hu hg3 (show w.heap.size < B2 by omega))
  have HG := Lib.hid (grownBy_then2 hg2 hg3)
  have hs3 : w1.heap.size ≤ w3.heap.size := Nat.le_trans hg2.size hg3.size
  clear hv hu hg2 hg3 hr2
  cases b with
  | false =>
    go_wp2_with fail
    go_ret2
    exact ⟨_, _, L, Q, rfl, HV.out.mono hs1, HU.out.mono (by omega), hL, hQ, hb.trans (below_of_grownBy HG.out hs1 (Nat.le_refl _))⟩
  | true =>
    by_cases hq0 : 0 < Q.length
    · obtain ⟨g, cap2, he, hbg, hgl, _, _⟩ := owns_form HU.out hq0
      injection he with he1 he2 he3
      subst he1
      subst he3
      have c0 := HU.out.cellAt 0 (by omega)
      rw [ints_getD Q 0 hq0] at c0
      have f0 := HU.out.frozenAt 0
      generalize Q.getD 0 0 = y at *
      have kp : Hid (∀ w', Below w3.heap.size w3 w' → Calls Try.prog 48 #[.pointer (some ⟨w.heap.size, 0, none⟩), .int .i64 2] w' fun e w'' => ∃ x : Int, e = .returned (.int .i64 x) ∧
          w''.cell? ⟨g, 0, none⟩ = some (.int .i64 y) ∧ w''.frozen? ⟨g, 0, none⟩ = false ∧ w''.ownsRow w1.heap.size 3 1 v L.length (L.map (Value.int .i64)) ∧
          w''.ownsRow B2 3 1 (.slice (some ⟨g, 0, none⟩) Q.length cu) Q.length (Q.map (Value.int .i64)) ∧ w1.grownBy w'' (some w.heap.size)) := by
        intro w' hb'
        refine (pick_u w.heap.size 16 2 (by omega) (by omega) (by omega) w' w3.heap.size ((hr3.base (by omega)).below hb')).mono ?_
        rintro e w'' ⟨x, rfl, _, _, _, hgx⟩
        have hgl' : g < w'.heap.size := Nat.lt_of_lt_of_le hgl hb'.size
        have hne : some g ≠ some w.heap.size := by intro e; injection e with e; omega
        refine ⟨x, rfl, ?_, ?_, owns_grown (owns_below HV.out hb') hgx hlt, owns_grown (owns_below HU.out hb') hgx (by omega), grownBy_then2 (grownBy_then HG.out (hb'.mono hs3)) hgx⟩
        · exact (World.cell?_of_block (a := ⟨g, 0, none⟩) (hgx.block g hgl' hne)).trans ((hb'.cell (p := ⟨g, 0, none⟩) hgl).trans c0)
        · exact (World.frozen?_of_block (a := ⟨g, 0, none⟩) (hgx.block g hgl' hne)).trans ((hb'.frozen (p := ⟨g, 0, none⟩) hgl).trans f0)
      have hb0 := Lib.hid (Below.refl w3.heap.size w3)
      clear HV HU HG hr3
      go_wp2_with fail
      go_region_with (first | (go_at_call 48; (with_reducible refine (kp.out _ (by first | exact hb0.out | exact hb0.out.drew)).mono ?_); rintro e w5 ⟨x, rfl, c5, f5, HV5, HU5, HG5⟩))
      all_goals
        have HV6 := Lib.hid HV5
        have HU6 := Lib.hid HU5
        have HG6 := Lib.hid HG5
        clear HV5 HU5 HG5
        go_wp2_with fail
        go_ret2
        refine ⟨_, _, L, Q.set 0 _, rfl, ?_, (owns_set0 HU6.out rfl _).mono (by omega), hL, by simp; omega, ?_⟩
        · exact (owns_kept_below HV6.out HVB.out ((Below.refl B2 _).setCell hbg _)).mono hs1
        · exact hb.trans ((below_of_grownBy HG6.out hs1 (Nat.le_refl _)).trans ((Below.refl _ _).setCell (by simp; omega) _))
    · have hq1 : Q.length = 0 := by omega
      have hq2 : (Q.length : Int) = 0 := by omega
      clear hq0
      have hq3 := Lib.hid hq1
      clear hq1
      go_wp2_with fail
      go_ret2
      exact ⟨_, _, L, Q, rfl, HV.out.mono hs1, HU.out.mono (by omega), hL, hQ, hb.trans (below_of_grownBy HG.out hs1 (Nat.le_refl _))⟩

def wF (xs qs : List Int) (j : Nat) : Int := IntKind.i64.wrap (xs.getD j 0 - qs.getD j 0)
theorem SOk_other {xs qs : List Int} (hs : SOk xs qs = true) : qs.length = xs.length ∧ SOk xs (fnl xs.length (wF xs qs)) = true := by
  obtain ⟨_, hl, hx, hy⟩ := SOk_in hs
  have hk : KOk xs = true := by simp only [SOk, Bool.and_eq_true] at hs; exact hs.1
  refine ⟨hl, ?_⟩
  simp only [SOk, Bool.and_eq_true, decide_eq_true_eq]
  refine ⟨hk, fnl_length _ _, fun j hj => ?_⟩
  rw [fnl_length] at hj
  rw [fnl_getD _ _ _ hj]
  have h1 := hy j hj
  have h2 := hx j hj
  have : wF xs qs j = xs.getD j 0 - qs.getD j 0 := IntWalk.i64_in _ (by omega)
  omega
theorem impl_SO {xs qs : List Int} {b : Bool} (e : SOk xs qs = b) (v u : Value) (w : World) (h : Rd w v xs) (hq : Rd w u qs) (hl : qs.length ≤ 1048576) :
    Calls Try.prog 17 #[v, u] w fun e w' => e = .returned (.bool b) ∧ Below w.heap.size w w' := by
  rw [← e]; exact impl_SplitOk v u xs qs w h hq hl
theorem spec_SO {xs qs : List Int} {b : Bool} (e : SOk xs qs = b) (v u : Value) (w : World) (h : Rd w v xs) (hq : Rd w u qs) (hl : xs.length ≤ 1048576) (hl2 : qs.length ≤ 1048576) :
    Calls Try.prog 16 #[v, u] w fun e w' => e = .returned (.bool b) ∧ Below w.heap.size w w' := by
  rw [← e]; exact spec_SplitOk v u xs qs w h hq hl hl2

set_option maxHeartbeats 4000000 in
theorem law_FnSplitOk (a0 : Option Addr) (len0 cap0 : Nat) (z0 : List Int) (w : World) (w0 : IsRow .u8 w a0 len0 cap0 z0) :
    Calls Try.prog 10 #[.slice a0 len0 cap0] w fun e w' => e = .returned (.bool true) ∧ Below w.heap.size w w' := by
  have hc := Code8.of_row w0
  clear w0
  by_cases hl : 1048576 < len0
  · go_enter Try.func10, Try.ntmps10
    go_wp2_with fail
    go_ret
    exact ⟨rfl, Below.refl _ _⟩
  · go_enter Try.func10, Try.ntmps10
    go_wp2_with fail
    refine (draw_SplitOk _ _ _ _ hc).mono ?_
    rintro e w1 ⟨v, u, L, Q, rfl, hv, hu, hL, hQ, hb1⟩
    clear hc
    have hrv := Lib.hid (Ow.of_row hv (by simp only [maxLen]; omega)).rd
    have hru := Lib.hid (Ow.of_row hu (by simp only [maxLen]; omega)).rd
    obtain ⟨b, hs⟩ : ∃ b, SOk L Q = b := ⟨_, rfl⟩
    have HS := Lib.hid hs
    go_wp2_with fail
    refine (impl_SO hs v u w1 hrv.out hru.out (by omega)).mono ?_
    rintro e w2 ⟨rfl, hb2⟩
    have hrv2 := Lib.hid (hrv.out.below hb2)
    have hru2 := Lib.hid (hru.out.below hb2)
    have n2 := below_call hb1 (Nat.le_refl _) hb2
    clear hrv hru hb1 hb2 hv hu
    go_wp2_with fail
    refine (spec_SO hs v u w2 hrv2.out hru2.out (by omega) (by omega)).mono ?_
    rintro e w3 ⟨rfl, hb3⟩
    have hrv3 := hrv2.out.below hb3
    have hru3 := hru2.out.below hb3
    have n3 := below_call n2 (Nat.le_refl _) hb3
    clear hrv2 hru2 hb3 n2 hs
    have HRV := Lib.hid hrv3
    obtain ⟨av, cv, rfl, hmv, hav⟩ := hrv3
    obtain ⟨au, cu, rfl, hmu, hau⟩ := hru3
    have HAV := Lib.hid hav
    have HAU := Lib.hid hau
    obtain ⟨B, hB⟩ : ∃ B, B = w3.heap.size := ⟨_, rfl⟩
    have HB := Lib.hid hB
    have ha : Below B w3 (w3.alloc (.cells #[] 3)) := by rw [hB]; exact (Below.refl _ _).alloc (Nat.le_refl _) _
    have HO := Lib.hid (show (w3.alloc (.cells #[] 3)).ownsRow B 3 1 (.slice (some ⟨w3.heap.size, 0, none⟩) 0 0) 0 [] by rw [hB]; exact World.ownsRow_made w3 #[] 0 (Nat.le_refl _) (by simp [maxLen]) (by simp))
    have HA := Lib.hid ha
    have HN := Lib.hid n3
    clear hav hau hmv hmu hB ha n3
    cases b with
    | false =>
      go_wp2_with fail
      go_loopw [6, 7] (fun vo vk wr => ∃ k : Nat, k ≤ L.length ∧ k ≤ Q.length ∧ vk = .int .i64 k ∧ wr.ownsRow B 3 1 vo (fnl k (wF L Q)).length ((fnl k (wF L Q)).map (Value.int .i64)) ∧ Below B w3 wr) (fun _ vk _ => L.length - (intOf vk).toNat)
      case atStart => exact ⟨0, by omega, by omega, rfl, by simpa [fnl] using HO.out, HA.out⟩
      case round =>
        obtain ⟨k, hk, hk2, rfl, hown, hbel⟩ := hrel
        have hsz : B ≤ wr.heap.size := by have := hbel.size; rw [HB.out]; exact this
        have hfl : (fnl k (wF L Q)).length < 1000000000 := by rw [fnl_length]; omega
        by_cases hlt : k < L.length ∧ k < Q.length
        · obtain ⟨hlt1, hlt2⟩ := hlt
          obtain ⟨gx, ox, rfl, hcx⟩ := HAV.out (by intro e; rw [e] at hlt1; simp at hlt1)
          obtain ⟨gq, oq, rfl, hcq⟩ := HAU.out (by intro e; rw [e] at hlt2; simp at hlt2)
          have hgx : gx < B := by rw [HB.out]; exact World.block_lt_of_cell? w3 _ (hcx 0 (by omega))
          have hgq : gq < B := by rw [HB.out]; exact World.block_lt_of_cell? w3 _ (hcq 0 (by omega))
          have cx0 : wr.cell? ⟨gx, ox + k, none⟩ = some (.int .i64 (L.getD k 0)) := (hbel.cell (p := ⟨gx, ox + k, none⟩) hgx).trans (hcx k hlt1)
          have cq0 : wr.cell? ⟨gq, oq + k, none⟩ = some (.int .i64 (Q.getD k 0)) := (hbel.cell (p := ⟨gq, oq + k, none⟩) hgq).trans (hcq k hlt2)
          have HF : Hid (wF L Q k = IntKind.i64.wrap (L.getD k 0 - Q.getD k 0)) := rfl
          generalize L.getD k 0 = x at *
          generalize Q.getD k 0 = y at *
          have hi0 : (0 : Int) ≤ (k : Int) := by omega
          have hi1 : (k : Int) < (L.length : Int) := by omega
          have hi2 : (k : Int) < (Q.length : Int) := by omega
  
          clear hcx hcq
          go_wp2_with fail
          go_region_held3 (fun w' => w'.cell? ⟨gx, ox + k, none⟩ = some (.int .i64 x) ∧ w'.cell? ⟨gq, oq + k, none⟩ = some (.int .i64 y))
            (first | go_keep | (go_split_ands; exact ⟨(hb2.cell (p := ⟨gx, ox + k, none⟩) hgx).trans cx0, (hb2.cell (p := ⟨gq, oq + k, none⟩) hgq).trans cq0⟩))
            (first | (refine step_append_int wr (by rfl) _ _ (by rfl) B _ _ (IntKind.i64.wrap (x - y)) hown (by rfl) (by rfl) hfl hsz (((Below.refl _ _).alloc (Nat.le_refl _) _).drew) (by simp) (heap_alloc_new wr _) ?_; intro v2 w2 hown2 hb2))
          go_wp2_with fail
          rw [← HF.out, fnl_snoc] at hown2
          go_roundw
          case rel => exact ⟨k + 1, by omega, by omega, by go_num, hown2, hbel.trans hb2⟩
          case measure => simp [intOf]; omega
        · have hbw : Below w.heap.size w wr := HN.out.trans (hbel.mono (by rw [HB.out]; exact HN.out.size))
          have HBW := Lib.hid hbw
          clear hown hbel hfl hbw hsz
          by_cases h1 : k < L.length
          · have h2 : ¬ k < Q.length := by omega
            clear hlt
            go_wp2_with (first | (go_at_call 29; refine (alive_any _).mono ?_; rintro e w7 ⟨rfl, rfl⟩))
            go_ret
            exact ⟨rfl, HBW.out⟩
          · clear hlt
            go_wp2_with (first | (go_at_call 29; refine (alive_any _).mono ?_; rintro e w7 ⟨rfl, rfl⟩))
            go_ret
            exact ⟨rfl, HBW.out⟩
    | true =>
      go_wp2_with fail
      go_loopw [6, 7] (fun vo vk wr => ∃ k : Nat, k ≤ L.length ∧ k ≤ Q.length ∧ vk = .int .i64 k ∧ wr.ownsRow B 3 1 vo (fnl k (wF L Q)).length ((fnl k (wF L Q)).map (Value.int .i64)) ∧ Below B w3 wr) (fun _ vk _ => L.length - (intOf vk).toNat)
      case atStart => exact ⟨0, by omega, by omega, rfl, by simpa [fnl] using HO.out, HA.out⟩
      case round =>
        obtain ⟨k, hk, hk2, rfl, hown, hbel⟩ := hrel
        have hsz : B ≤ wr.heap.size := by have := hbel.size; rw [HB.out]; exact this
        have hfl : (fnl k (wF L Q)).length < 1000000000 := by rw [fnl_length]; omega
        by_cases hlt : k < L.length ∧ k < Q.length
        · obtain ⟨hlt1, hlt2⟩ := hlt
          obtain ⟨gx, ox, rfl, hcx⟩ := HAV.out (by intro e; rw [e] at hlt1; simp at hlt1)
          obtain ⟨gq, oq, rfl, hcq⟩ := HAU.out (by intro e; rw [e] at hlt2; simp at hlt2)
          have hgx : gx < B := by rw [HB.out]; exact World.block_lt_of_cell? w3 _ (hcx 0 (by omega))
          have hgq : gq < B := by rw [HB.out]; exact World.block_lt_of_cell? w3 _ (hcq 0 (by omega))
          have cx0 : wr.cell? ⟨gx, ox + k, none⟩ = some (.int .i64 (L.getD k 0)) := (hbel.cell (p := ⟨gx, ox + k, none⟩) hgx).trans (hcx k hlt1)
          have cq0 : wr.cell? ⟨gq, oq + k, none⟩ = some (.int .i64 (Q.getD k 0)) := (hbel.cell (p := ⟨gq, oq + k, none⟩) hgq).trans (hcq k hlt2)
          have HF : Hid (wF L Q k = IntKind.i64.wrap (L.getD k 0 - Q.getD k 0)) := rfl
          generalize L.getD k 0 = x at *
          generalize Q.getD k 0 = y at *
          have hi0 : (0 : Int) ≤ (k : Int) := by omega
          have hi1 : (k : Int) < (L.length : Int) := by omega
          have hi2 : (k : Int) < (Q.length : Int) := by omega
  
          clear hcx hcq
          go_wp2_with fail
          go_region_held3 (fun w' => w'.cell? ⟨gx, ox + k, none⟩ = some (.int .i64 x) ∧ w'.cell? ⟨gq, oq + k, none⟩ = some (.int .i64 y))
            (first | go_keep | (go_split_ands; exact ⟨(hb2.cell (p := ⟨gx, ox + k, none⟩) hgx).trans cx0, (hb2.cell (p := ⟨gq, oq + k, none⟩) hgq).trans cq0⟩))
            (first | (refine step_append_int wr (by rfl) _ _ (by rfl) B _ _ (IntKind.i64.wrap (x - y)) hown (by rfl) (by rfl) hfl hsz (((Below.refl _ _).alloc (Nat.le_refl _) _).drew) (by simp) (heap_alloc_new wr _) ?_; intro v2 w2 hown2 hb2))
          go_wp2_with fail
          rw [← HF.out, fnl_snoc] at hown2
          go_roundw
          case rel => exact ⟨k + 1, by omega, by omega, by go_num, hown2, hbel.trans hb2⟩
          case measure => simp [intOf]; omega
        · obtain ⟨hQL, hso⟩ := SOk_other HS.out
          obtain rfl : k = L.length := by omega
          have hbw : Below w.heap.size w wr := HN.out.trans (hbel.mono (by rw [HB.out]; exact HN.out.size))
          have HBW := Lib.hid hbw
          have ko := Lib.hid (impl_SO hso _ _ wr (HRV.out.below (by rw [← HB.out]; exact hbel)) (Ow.of_row hown (by rw [fnl_length]; simp only [maxLen]; omega)).rd (by rw [fnl_length]; omega))
          clear hown hbel hfl hbw hsz hQL hso hlt
          go_wp2_with (first
            | (go_at_call 17; (with_reducible refine ko.out.mono ?_); rintro e w6 ⟨rfl, hb6⟩)
            | (go_at_call 29; refine (alive_any _).mono ?_; rintro e w7 ⟨rfl, rfl⟩))
          go_ret
          exact ⟨rfl, below_call HBW.out (Nat.le_refl _) hb6⟩
end Go.Proofs.Ytfhklaoemfhamaa
