/- A code, drawn; the law FnCodeOk. -/
import Derived.Test.YtkkjgcpkimjfkaaProg
import Derived.Test.YtkkjgcpkimjfkaaCodes1
import Derived.Test.YtkkjgcpkimjfkaaDrawU
import Derived.Test.YtkkjgcpkimjfkaaAlive
import Derived.Deep.AppendLies
namespace Go.Proofs.Ytkkjgcpkimjfkaa
open Go.RowKit

theorem owns_set0 {w : World} {B g n cap : Nat} {L : List Int} (h : w.ownsRow B 3 1 (.slice (some ⟨g, 0, none⟩) n cap) n (L.map (Value.int .i64))) (hn : n = L.length) (x : Int) :
    (w.setCell ⟨g, 0, none⟩ (.int .i64 x)).ownsRow B 3 1 (.slice (some ⟨g, 0, none⟩) n cap) (L.set 0 x).length ((L.set 0 x).map (Value.int .i64)) := by
  have := (h.stored 0 (.int .i64 x)).1
  rw [List.map_set, List.length_set, ← hn]
  exact this

set_option maxHeartbeats 400000 in
theorem size_any (R N : Nat) (hN : N ≤ 1000000) (base : Nat) (w : World) (h : RdU w R N base) :
    Calls Try.prog 58 #[.pointer (some ⟨R, 0, none⟩)] w fun e w' => ∃ (p c : Nat), e = .returned (.tuple #[.int .i64 p, .int .i64 c]) ∧ 1 ≤ p ∧ p ≤ 3 ∧ 1 ≤ c ∧ c ≤ 4 ∧ RdU w' R (N + 2) base ∧ w.grownBy w' (some R) := by
  go_enter Try.func58, Try.ntmps58
  go_wp2_with fail
  refine (pick_u R N 3 (by omega) (by omega) (by omega) _ base h).mono ?_
  rintro e w1 ⟨x, rfl, hx0, hx1, hr1, hg1⟩
  go_wp2_with fail
  refine (pick_u R (N + 1) 4 (by omega) (by omega) (by omega) _ base hr1).mono ?_
  rintro e w2 ⟨y, rfl, hy0, hy1, hr2, hg2⟩
  go_wp2_with fail
  refine bodyPost_ret (v := .tuple #[.int .i64 (1 + x), .int .i64 (1 + y)]) (by simp [results, Try.results58, go_sem]) rfl ?_
  refine ⟨(1 + x).toNat, (1 + y).toNat, ?_, by omega, by omega, by omega, by omega, hr2, grownBy_then2 hg1 hg2⟩
  rw [show (((1 + x).toNat : Nat) : Int) = 1 + x by omega, show (((1 + y).toNat : Nat) : Int) = 1 + y by omega]

set_option maxHeartbeats 1000000 in
theorem code_any (R N p c : Nat) (n : Int) (hp : 1 ≤ p) (hp2 : p ≤ 3) (hc : 1 ≤ c) (hc2 : c ≤ 10) (hn : 0 ≤ n) (hn2 : n ≤ 1000) (hN : N ≤ 1000000) (w : World) (h : RdU w R N w.heap.size) :
    Calls Try.prog 59 #[.pointer (some ⟨R, 0, none⟩), .int .i64 p, .int .i64 c, .int .i64 n] w fun e w' => ∃ (v : Value) (L : List Int), e = .returned v ∧ w'.ownsRow w.heap.size 3 1 v L.length (L.map (Value.int .i64)) ∧ L.length ≤ 4 ∧ RdU w' R (N + 5) w.heap.size ∧ w.grownBy w' (some R) := by
  obtain ⟨B, hB⟩ : ∃ B, B = w.heap.size := ⟨_, rfl⟩
  have hR : R < B := by rw [hB]; exact h.1
  have ha : Below B w (w.alloc (.cells #[] 3)) := by rw [hB]; exact (Below.refl _ _).alloc (Nat.le_refl _) _
  rw [← hB] at h ⊢
  have HG := Lib.hid (grownBy_any (some R) (show Below w.heap.size w (w.alloc (.cells #[] 3)) by rw [← hB]; exact ha))
  have HO := Lib.hid (show (w.alloc (.cells #[] 3)).ownsRow B 3 1 (.slice (some ⟨w.heap.size, 0, none⟩) 0 0) 0 [] by rw [hB]; exact World.ownsRow_made w #[] 0 (Nat.le_refl _) (by simp [maxLen]) (by simp))
  have HR := Lib.hid (h.below ha)
  have HB := Lib.hid hB
  have hmx : max (c : Int) 1 = c := by omega
  clear h ha
  go_enter Try.func59, Try.ntmps59
  go_wp2_with fail
  go_loopw [9, 10] (fun vo vk wr => ∃ (L : List Int), L.length ≤ p ∧ vk = .int .i64 (L.length : Nat) ∧
      wr.ownsRow B 3 1 vo L.length (L.map (Value.int .i64)) ∧ RdU wr R (N + L.length) B ∧ w.grownBy wr (some R)) (fun _ vk _ => p - (intOf vk).toNat)
  case atStart => exact ⟨[], by simp, rfl, HO.out, HR.out, HG.out⟩
  case round =>
    clear HO HR HG
    obtain ⟨L, hk, rfl, hown, hr, hg⟩ := hrel
    have hsz : B ≤ wr.heap.size := by rw [HB.out]; exact hg.size
    have HBg := Lib.hid hg
    clear hg
    by_cases hlt : L.length < p
    · go_wp2_with fail
      refine (pick_u R (N + L.length) c (by omega) (by omega) (by omega) _ B hr).mono ?_
      rintro e w3 ⟨x, rfl, hx0, hx1, hr3, hg3⟩
      have hown3 := owns_grown hown hg3 hR
      have hsz3 : B ≤ w3.heap.size := Nat.le_trans hsz hg3.size
      have HG3 := Lib.hid (grownBy_then2 HBg.out hg3)
      have hL2 : L.length < 1000000000 := by omega
      clear hown hr hg3 HBg
      go_wp2_with (first | (at_builtin; (refine wpList_append_int _ rfl _ _ rfl B _ L x hown3 rfl rfl hL2 hsz3 ?_); intro v2 w4 hown4 hb4))
      go_roundw
      case rel => exact ⟨L ++ [x], by simp; omega, by simp, hown4, (hr3.below hb4).more (by simp; omega), grownBy_then HG3.out (by rw [← HB.out]; exact hb4)⟩
      case measure => simp [intOf]; omega
    · obtain ⟨g, cap, rfl, hbg, hgl, _, _⟩ := owns_form hown (by omega)
      have hL1 : 0 < L.length := by omega
      have hL2 : L.length < 1000000000 := by omega
      go_wp2_with fail
      refine (odd_u R (N + L.length) n hn (by omega) (by omega) _ B hr).mono ?_
      rintro e w3 ⟨b, rfl, hr3, hg3⟩
      have HO3 := Lib.hid (owns_grown hown hg3 hR)
      have HG3 := Lib.hid (grownBy_then2 HBg.out hg3)
      have hsz3 : B ≤ w3.heap.size := Nat.le_trans hsz hg3.size
      clear hown hr hg3 HBg hsz hgl
      cases b with
      | false =>
        go_wp2_with fail
        go_ret
        exact ⟨_, L, rfl, HO3.out, by omega, hr3.more (by omega), HG3.out⟩
      | true =>
        go_wp2_with fail
        refine (pick_u R (N + L.length + 1) 2 (by omega) (by omega) (by omega) _ B hr3).mono ?_
        rintro e w4 ⟨v, rfl, hv0, hv1, hr4, hg4⟩
        have hown4 := owns_grown HO3.out hg4 hR
        have HO4 := Lib.hid hown4
        have HG4 := Lib.hid (grownBy_then2 HG3.out hg4)
        have c0 := HO4.out.cellAt 0 (by omega)
        rw [ints_getD L 0 hL1] at c0
        have f0 := HO4.out.frozenAt 0
        have s4 : B ≤ w4.heap.size := Nat.le_trans hsz3 hg4.size
        clear HO3 HG3 hr3 hg4 hsz3
        have hv : v = 0 ∨ v = 1 := by omega
        rcases hv with rfl | rfl
        · go_wp2_with (first | (at_builtin; (refine wpList_append_int _ rfl _ _ rfl B _ L _ hown4 rfl rfl hL2 s4 ?_); intro v2 w6 hown6 hb6))
          go_ret
          exact ⟨_, L ++ [0], rfl, hown6, by simp; omega, (hr4.below hb6).more (by omega), grownBy_then HG4.out (by rw [← HB.out]; exact hb6)⟩
        · clear hown4
          go_wp2_with fail
          go_ret
          have ha : Below B w4 (w4.setCell ⟨g, 0, none⟩ (.int .i64 c)) := (Below.refl _ _).setCell hbg _
          exact ⟨_, L.set 0 c, rfl, owns_set0 HO4.out rfl c, by simp; omega, (hr4.below ha).more (by omega), grownBy_then HG4.out (by rw [← HB.out]; exact ha)⟩

set_option maxHeartbeats 1000000 in
theorem draw_CodeOk (a : Option Addr) (len cap : Nat) (w : World) (h : Code8 w a len cap) :
    Calls Try.prog 32 #[.slice a len cap] w fun e w' => ∃ (v : Value) (L : List Int) (p c : Nat), e = .returned (.tuple #[.int .i64 p, .int .i64 c, v]) ∧ 1 ≤ p ∧ p ≤ 3 ∧ 1 ≤ c ∧ c ≤ 4 ∧ w'.ownsRow w.heap.size 3 1 v L.length (L.map (Value.int .i64)) ∧ L.length ≤ 4 ∧ Below w.heap.size w w' := by
  go_enter Try.func32, Try.ntmps32
  go_wp2_with fail
  refine (open_any a len cap w h).mono ?_
  rintro e w1 ⟨rfl, hr, hb⟩
  have hlt := hr.lt
  have hrU := hr.toU
  clear hr
  go_wp2_with fail
  refine (size_any w.heap.size 0 (by omega) _ w1 hrU).mono ?_
  rintro e w2 ⟨p, c, rfl, hp, hp2, hc, hc2, hr2, hg2⟩
  go_wp2_with fail
  refine (code_any w.heap.size 2 p c 2 hp hp2 hc (by omega) (by omega) (by omega) (by omega) w2 (hr2.base hg2.size)).mono ?_
  rintro e w3 ⟨v, L, rfl, hown, hL, _, hg3⟩
  go_wp2_with fail
  refine bodyPost_ret (v := .tuple #[.int .i64 p, .int .i64 c, v]) (by simp [results, Try.results32, go_sem]) rfl ?_
  exact ⟨v, L, p, c, rfl, hp, hp2, hc, hc2, hown.mono (Nat.le_trans hb.size hg2.size), hL, hb.trans (below_of_grownBy (grownBy_then2 hg2 hg3) hb.size (Nat.le_refl _))⟩

theorem impl_CO {p c : Int} {xs : List Int} {b : Bool} (e : COk p c xs = b) (v : Value) (w : World) (h : Rd w v xs) :
    Calls Try.prog 15 #[.int .i64 p, .int .i64 c, v] w fun e w' => e = .returned (.bool b) ∧ Below w.heap.size w w' := by
  rw [← e]; exact impl_CodeOk p c v xs w h
theorem COk_zeros (p c : Nat) (hp : 1 ≤ p) (hp2 : p ≤ 3) (hc : 1 ≤ c) (hc2 : c ≤ 4) : COk p c (List.replicate p 0) = true := by
  unfold COk CsOk
  simp only [Bool.and_eq_true, decide_eq_true_eq]
  refine ⟨by omega, by simp, AllB_iff.2 (fun x hx => ?_)⟩
  have := List.eq_of_mem_replicate hx
  omega
theorem COk_nil (p c : Nat) (hp : 1 ≤ p) : COk p c [] = false := by
  unfold COk
  have : ¬ ((([] : List Int).length : Nat) : Int) = p := by simp; omega
  rw [decide_eq_false this]
  simp

set_option maxHeartbeats 2000000 in
theorem law_FnCodeOk (a0 : Option Addr) (len0 cap0 : Nat) (z0 : List Int) (w : World) (w0 : IsRow .u8 w a0 len0 cap0 z0) :
    Calls Try.prog 8 #[.slice a0 len0 cap0] w fun e w' => e = .returned (.bool true) ∧ Below w.heap.size w w' := by
  have hc := Code8.of_row w0
  clear w0
  by_cases hl : 1048576 < len0
  · go_enter Try.func8, Try.ntmps8
    go_wp2_with fail
    go_ret
    exact ⟨rfl, Below.refl _ _⟩
  · go_enter Try.func8, Try.ntmps8
    go_wp2_with fail
    refine (draw_CodeOk _ _ _ _ hc).mono ?_
    rintro e w1 ⟨v, L, p, c, rfl, hp, hp2, hcc, hc2, hown, hL, hb1⟩
    clear hc
    have hrd := (Ow.of_row hown (by simp only [maxLen]; omega)).rd
    have hbr := Below.refl w1.heap.size w1
    obtain ⟨i0, hi, hz0, hz1, hz2⟩ := info_parts YtkkjgcpkimjfkaainfoI
    have k0 := Lib.hid (fun w' : World => impl_CO (COk_nil p c hp) (.slice (some ⟨w'.heap.size, 0, none⟩) 0 0) (w'.alloc (.cells #[] 3)) (rd_lit w' [] (by decide)))
    have kz := Lib.hid (fun w' z (hz : Rd w' z (List.replicate p 0)) => impl_CO (COk_zeros p c hp hp2 hcc hc2) z w' hz)
    cases hk : COk p c L with
    | false =>
      have k1 := Lib.hid (impl_CO hk v w1 hrd)
      have k2 := Lib.hid (fun w' (b : Below w1.heap.size w1 w') => spec_CodeOk p c v L w' (hrd.below b))
      rw [hk] at k2
      clear hk hrd hown
      go_wp2_with (first
        | (go_at_call 15; (with_reducible refine k1.out.mono ?_); rintro e w2 ⟨rfl, hb2⟩)
        | (go_at_call 13; (with_reducible refine (k2.out _ hb2).mono ?_); rintro e w3 ⟨rfl, rfl⟩)
        | (at_make; (refine wpList_make_full _ rfl _ _ 22 rfl w2.heap.size 3 i0 (.int .i64 0) 1 Try.underlying22 hi hz0 hz1 .i64 .i64 _ _ p rfl rfl (by omega) (by omega) (by rw [hz2]; omega) (by unfold maxLen; omega) (Nat.le_refl _) ?_); intro w4 hown4 hgrow; have hrd4 := (Ow.of_row (xs := List.replicate p 0) (by simpa [Value.cells, toList_madeCells_one] using hown4) (by simp [maxLen]; omega)).rd; have n4 := below_call hb2 (Nat.le_refl _) (grown_below hgrow); clear hown4 hgrow)
        | (go_at_call 15; (with_reducible refine (kz.out _ _ hrd4).mono ?_); rintro e w5 ⟨rfl, hb5⟩; have n5 := below_call n4 (Nat.le_refl _) hb5; clear hb5)
        | (go_at_call 15; (with_reducible refine (k0.out _).mono ?_); rintro e w6 ⟨rfl, hb6⟩; have n6 := below_lit n5 (Nat.le_refl _) hb6; clear hb6)
        | (go_at_call 33; refine (alive_any _).mono ?_; rintro e w7 ⟨rfl, rfl⟩))
      go_ret
      exact ⟨rfl, below_call hb1 (Nat.le_refl _) n6⟩
    | true =>
      have k1 := Lib.hid (impl_CO hk v w1 hrd)
      have k2 := Lib.hid (fun w' (b : Below w1.heap.size w1 w') => spec_CodeOk p c v L w' (hrd.below b))
      rw [hk] at k2
      clear hk hrd hown
      go_wp2_with (first
        | (go_at_call 15; (with_reducible refine k1.out.mono ?_); rintro e w2 ⟨rfl, hb2⟩)
        | (go_at_call 13; (with_reducible refine (k2.out _ hb2).mono ?_); rintro e w3 ⟨rfl, rfl⟩)
        | (at_make; (refine wpList_make_full _ rfl _ _ 22 rfl w2.heap.size 3 i0 (.int .i64 0) 1 Try.underlying22 hi hz0 hz1 .i64 .i64 _ _ p rfl rfl (by omega) (by omega) (by rw [hz2]; omega) (by unfold maxLen; omega) (Nat.le_refl _) ?_); intro w4 hown4 hgrow; have hrd4 := (Ow.of_row (xs := List.replicate p 0) (by simpa [Value.cells, toList_madeCells_one] using hown4) (by simp [maxLen]; omega)).rd; have n4 := below_call hb2 (Nat.le_refl _) (grown_below hgrow); clear hown4 hgrow)
        | (go_at_call 15; (with_reducible refine (kz.out _ _ hrd4).mono ?_); rintro e w5 ⟨rfl, hb5⟩; have n5 := below_call n4 (Nat.le_refl _) hb5; clear hb5)
        | (go_at_call 15; (with_reducible refine (k0.out _).mono ?_); rintro e w6 ⟨rfl, hb6⟩; have n6 := below_lit n5 (Nat.le_refl _) hb6; clear hb6)
        | (go_at_call 33; refine (alive_any _).mono ?_; rintro e w7 ⟨rfl, rfl⟩))
      go_ret
      exact ⟨rfl, below_call hb1 (Nat.le_refl _) n6⟩
end Go.Proofs.Ytkkjgcpkimjfkaa
