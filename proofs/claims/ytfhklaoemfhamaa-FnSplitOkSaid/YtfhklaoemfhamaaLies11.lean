/- What is known and a question, drawn; the law FnSplitOk. -/
import Derived.Test.YtfhklaoemfhamaaProg
import Derived.Test.YtfhklaoemfhamaaLies5
import Derived.Test.YtfhklaoemfhamaaLies9
import Derived.Deep.RegionWith
namespace Go.Proofs.Ytfhklaoemfhamaa
open Go.RowKit

theorem owns_block_lt {w : World} {base e size : Nat} {v : Value} {n : Nat} {xs : List Value} (h : w.ownsRow base e size v n xs) : ∀ k, v.ownBlock = some k → k < w.heap.size := fun k hk => (h.lt k hk).2
theorem owns_kept_below {w w' : World} {base B e size : Nat} {v : Value} {n : Nat} {xs : List Value} (h : w.ownsRow base e size v n xs) (hk : ∀ k, v.ownBlock = some k → k < B) (b : Below B w w') : w'.ownsRow base e size v n xs := by
  cases hv : v.ownBlock with
  | none =>
    refine ⟨h.1, ?_⟩
    rcases h.2 with h2 | ⟨g, cap, cur, rfl, _⟩
    · exact .inl h2
    · simp [Value.ownBlock] at hv
  | some k =>
    rcases h.2 with ⟨rfl, _⟩ | ⟨g, cap, cur, rfl, h1, h2, h3⟩
    · simp [Value.ownBlock] at hv
    · simp [Value.ownBlock] at hk
      exact ⟨h.1, .inr ⟨g, cap, cur, rfl, h1, (b.block g hk).trans h2, h3⟩⟩

set_option maxHeartbeats 1000000 in
theorem split_any (R N : Nat) (hN : N ≤ 1000000) (w : World) (h : RdU w R N w.heap.size) :
    Calls Try.prog 46 #[.pointer (some ⟨R, 0, none⟩)] w fun e w' => ∃ (v u : Value) (L Q : List Int) (B2 : Nat), e = .returned (.tuple #[v, u]) ∧ w.heap.size ≤ B2 ∧ w'.ownsRow w.heap.size 3 1 v L.length (L.map (Value.int .i64)) ∧ (∀ k, v.ownBlock = some k → k < B2) ∧
      w'.ownsRow B2 3 1 u Q.length (Q.map (Value.int .i64)) ∧ L.length ≤ 3 ∧ Q.length ≤ 4 ∧ RdU w' R (N + 15) B2 ∧ w.grownBy w' (some R) := by
  have hR : R < w.heap.size := h.1
  go_enter Try.func46, Try.ntmps46
  go_wp2_with fail
  refine (known_any R N 12 (by omega) (by omega) (by omega) w h).mono ?_
  rintro e w1 ⟨v, L, rfl, hown, hL, hr1, hg1⟩
  have hs1 := hg1.size
  obtain ⟨B, hB⟩ : ∃ B, B = w1.heap.size := ⟨_, rfl⟩
  have HB := Lib.hid hB
  have hvb : Hid (∀ k, v.ownBlock = some k → k < B) := by rw [hB]; exact owns_block_lt hown
  have ha : Below B w1 (w1.alloc (.cells #[] 3)) := by rw [hB]; exact (Below.refl _ _).alloc (Nat.le_refl _) _
  have HO := Lib.hid (show (w1.alloc (.cells #[] 3)).ownsRow B 3 1 (.slice (some ⟨w1.heap.size, 0, none⟩) 0 0) 0 [] by rw [hB]; exact World.ownsRow_made w1 #[] 0 (Nat.le_refl _) (by simp [maxLen]) (by simp))
  have hRB : R < B := by omega
  have HV := Lib.hid (owns_kept_below hown hvb.out ha)
  have HR := Lib.hid ((hr1.base (show w.heap.size ≤ B by omega)).below ha)
  have HG := Lib.hid (grownBy_then hg1 (ha.mono (by omega)))
  have hwB : w.heap.size ≤ B := by omega
  obtain ⟨av, cv, rfl, _⟩ := Ow.of_row hown (by simp only [maxLen]; omega)
  clear h hown hr1 hg1 ha hB hs1
  go_wp2_with fail
  go_loopw [5, 6] (fun vo vk wr => ∃ (Q : List Int), Q.length ≤ L.length ∧ vk = .int .i64 (Q.length : Nat) ∧
      wr.ownsRow B 3 1 vo Q.length (Q.map (Value.int .i64)) ∧ wr.ownsRow w.heap.size 3 1 (.slice av L.length cv) L.length (L.map (Value.int .i64)) ∧ RdU wr R (N + 10 + Q.length) B ∧ w.grownBy wr (some R) ∧ B ≤ wr.heap.size) (fun _ vk _ => L.length - (intOf vk).toNat)
  case atStart => exact ⟨[], by simp, rfl, HO.out, HV.out, HR.out, HG.out, by rw [HB.out]; simp⟩
  case round =>
    clear HO HV HR HG
    obtain ⟨Q, hk, rfl, hown, hv, hr, hg, hsz⟩ := hrel
    have HBg := Lib.hid hg
    clear hg
    by_cases hlt : Q.length < L.length
    · obtain ⟨g, cap, he, hbg, hgl, _, _⟩ := owns_form hv (by omega)
      injection he with he1 he2 he3
      subst he1
      subst he3
      have c0 := hv.cellAt Q.length (by omega)
      rw [ints_getD L Q.length hlt] at c0
      generalize L.getD Q.length 0 = x at *
      by_cases hx : 0 ≤ x
      · have hm0 : 0 ≤ x % 16 := Int.emod_nonneg _ (by omega)
        have hm1 : x % 16 < 16 := Int.emod_lt_of_pos _ (by omega)
        go_wp2_with fail
        refine (pick_u R (N + 10 + Q.length) (x % 16 + 1) (by omega) (by omega) (by omega) _ B hr).mono ?_
        rintro e w3 ⟨y, rfl, hy0, hy1, hr3, hg3⟩
        have hown3 := owns_grown hown hg3 hRB
        have hv3 := owns_grown hv hg3 hR
        have hvl : Hid (∀ k, (Value.slice (some ⟨g, 0, none⟩) L.length cv).ownBlock = some k → k < B) := hvb
        have hsz3 : B ≤ w3.heap.size := Nat.le_trans hsz hg3.size
        have HG3 := Lib.hid (grownBy_then2 HBg.out hg3)
        have hL2 : Q.length < 1000000000 := by omega
        clear hown hr hg3 HBg hv c0
        go_wp2_with (first | (at_builtin; (refine wpList_append_int _ rfl _ _ rfl B _ Q y hown3 rfl rfl hL2 hsz3 ?_); intro v2 w4 hown4 hb4))
        go_roundw
        case rel => exact ⟨Q ++ [y], by simp; omega, by simp, hown4, owns_kept_below hv3 hvl.out hb4, (hr3.below hb4).more (by simp; omega), grownBy_then HG3.out (hb4.mono hwB), Nat.le_trans hsz3 hb4.size⟩
        case measure => simp [intOf]; omega
      · have hx2 : x < 0 := by omega
        clear hx
        go_wp2_with fail
        refine (pick_u R (N + 10 + Q.length) 1 (by omega) (by omega) (by omega) _ B hr).mono ?_
        rintro e w3 ⟨y, rfl, hy0, hy1, hr3, hg3⟩
        have hown3 := owns_grown hown hg3 hRB
        have hv3 := owns_grown hv hg3 hR
        have hvl : Hid (∀ k, (Value.slice (some ⟨g, 0, none⟩) L.length cv).ownBlock = some k → k < B) := hvb
        have hsz3 : B ≤ w3.heap.size := Nat.le_trans hsz hg3.size
        have HG3 := Lib.hid (grownBy_then2 HBg.out hg3)
        have hL2 : Q.length < 1000000000 := by omega
        clear hown hr hg3 HBg hv c0
        go_wp2_with (first | (at_builtin; (refine wpList_append_int _ rfl _ _ rfl B _ Q y hown3 rfl rfl hL2 hsz3 ?_); intro v2 w4 hown4 hb4))
        go_roundw
        case rel => exact ⟨Q ++ [y], by simp; omega, by simp, hown4, owns_kept_below hv3 hvl.out hb4, (hr3.below hb4).more (by simp; omega), grownBy_then HG3.out (hb4.mono hwB), Nat.le_trans hsz3 hb4.size⟩
        case measure => simp [intOf]; omega
    · have hL2 : Q.length < 1000000000 := by omega
      go_wp2_with fail
      refine (odd_u R (N + 10 + Q.length) 12 (by omega) (by omega) (by omega) _ B hr).mono ?_
      rintro e w3 ⟨b, rfl, hr3, hg3⟩
      have hown3 := owns_grown hown hg3 hRB
      have hv3 := Lib.hid (owns_grown hv hg3 hR)
      have hsz3 : B ≤ w3.heap.size := Nat.le_trans hsz hg3.size
      have HG3 := Lib.hid (grownBy_then2 HBg.out hg3)
      clear hown hr hg3 HBg hv
      cases b with
      | false =>
        have hown3' := Lib.hid hown3
        clear hown3
        go_wp2_with fail
        go_ret2
        exact ⟨_, _, L, Q, B, rfl, hwB, hv3.out, hvb.out, hown3'.out, hL, by omega, hr3.more (by omega), HG3.out⟩
      | true =>
        go_wp2_with (first | (at_builtin; (refine wpList_append_int _ rfl _ _ rfl B _ Q 1 hown3 rfl rfl hL2 hsz3 ?_); intro v2 w4 hown4 hb4))
        go_ret2
        exact ⟨_, _, L, Q ++ [1], B, rfl, hwB, owns_kept_below hv3.out hvb.out hb4, hvb.out, hown4, hL, by simp; omega, (hr3.below hb4).more (by omega), grownBy_then HG3.out (hb4.mono hwB)⟩
end Go.Proofs.Ytfhklaoemfhamaa
