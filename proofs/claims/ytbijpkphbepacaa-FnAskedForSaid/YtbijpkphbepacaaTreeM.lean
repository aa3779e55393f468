/- The laws FnExactDepthsOf, FnExactAskedFor. -/
import Derived.Test.YtbijpkphbepacaaProg
import Derived.Test.YtbijpkphbepacaaTreeL
namespace Go.Proofs.Ytbijpkphbepacaa
open Go.RowKit

theorem impl_DepthsOf2 (n : Int) (s : ByteArray) (hs : s.size ≤ 1048576) (w : World) :
    Calls Try.prog 23 #[.int .i64 n, .string s] w (SPost (DO n s.data.toList) w) := by
  refine (impl_DepthsOf n s hs w).mono ?_
  rintro e w1 ⟨hbel, ⟨h1, rfl⟩ | ⟨t, g, h1, rfl, hg, hrow⟩⟩
  · rw [DO_none h1]
    exact ⟨_, rfl, Ow.nil _ _ _ _, hbel⟩
  · rw [DO_some h1]
    have := (TO_some.1 h1).1
    exact ⟨_, rfl, Ow.of_at (hrow.congr (fun j hj => (DL_getD _ t j hj).symm)) (DL_length _ t) (by unfold maxLen; omega) hg, hbel⟩
theorem DO_len (n : Int) (l : List UInt8) : (DO n l).length ≤ 14 := by
  cases h : TO n l with
  | none => rw [DO_none h]; simp
  | some t => rw [DO_some h, DL_length]; have := (TO_some.1 h).1; omega
theorem AF_len (n k : Int) (l : List UInt8) : (AF n l k).length ≤ 14 := by
  cases h : TO n l with
  | none => rw [AF_none h]; simp
  | some t =>
    by_cases hk : 0 ≤ k ∧ k ≤ n - 1
    · rw [AF_some h hk]
      have h1 := ask_len t (letter k.toNat)
      have h2 := (TO_some.1 h)
      have h3 := h2.2.2.1
      have h4 := h2.1
      omega
    · rw [AF_out hk]; simp

set_option maxHeartbeats 1000000 in
theorem law_FnExactDepthsOf (n : Int) (s : ByteArray) (w : World) (_ : (Lit.int .i64 n).wf = true) (hs : s.size ≤ maxLen) :
    Calls Try.prog 6 #[.int .i64 n, .string s] w fun e w' => e = .returned (.bool true) ∧ Below w.heap.size w w' := by
  unfold maxLen at hs
  by_cases hl : 1048576 < (s.size : Int)
  · go_enter Try.func6, Try.ntmps6
    go_wp2_with fail
    go_ret
    exact ⟨rfl, Below.refl _ _⟩
  · have hl2 : s.size ≤ 1048576 := by omega
    have c1 := Lib.hid (fun w => spec_DepthsOf n s hl2 w)
    have c2 := Lib.hid (fun w => impl_DepthsOf2 n s hl2 w)
    have hlen : (DO n s.data.toList).length ≤ 14 := DO_len n _
    generalize DO n s.data.toList = L at *
    go_enter Try.func6, Try.ntmps6
    go_wp2_with fail
    refine (c1.out _).mono ?_
    rintro e w1 ⟨v0, rfl, o1, hb1⟩
    go_wp2_with fail
    refine (c2.out _).mono ?_
    rintro e w2 ⟨g0, rfl, g2, hb2⟩
    have o2 := o1.below hb2
    go_wp2_with fail
    refine (eqIntS_yes _ _ L _ g2.rd o2.rd).mono ?_
    rintro e w3 ⟨rfl, hb3⟩
    have o3 := o2.below hb3
    have g3 := g2.below hb3
    go_wp2_with fail
    refine (markIntS_any _ _ L _ _ g3 (by omega) (by omega)).mono ?_
    rintro e w4 ⟨rfl, g4, hg4⟩
    have o4 := o3.grown hg4 (apart_blocks o1.rd.block_lt g3.block_ge)
    go_wp2_with fail
    refine (heldIntS_yes _ _ _ _ g4.rd (by omega) (by omega)).mono ?_
    rintro e w5 ⟨rfl, hb5⟩
    have o5 := o4.below hb5
    have g5 := g4.below hb5
    go_wp2_with fail
    refine (c2.out _).mono ?_
    rintro e w6 ⟨h0, rfl, h6, hb6⟩
    have o6 := o5.below hb6
    have g6 := g5.below hb6
    go_wp2_with fail
    refine (eqIntS_yes _ _ L _ h6.rd o6.rd).mono ?_
    rintro e w7 ⟨rfl, hb7⟩
    have g7 := g6.below hb7
    go_wp2_with fail
    refine (heldIntS_yes _ _ _ _ g7.rd (by omega) (by omega)).mono ?_
    rintro e w8 ⟨rfl, hb8⟩
    go_wp2_with fail
    go_ret
    refine ⟨rfl, ?_⟩
    have s1 := hb1.size
    have s2 := hb2.size
    have s3 := hb3.size
    have s4 := hg4.size
    have s5 := hb5.size
    have s6 := hb6.size
    have s7 := hb7.size
    have b3 : Below w.heap.size w w3 := hb1.trans ((hb2.mono s1).trans (hb3.mono (by omega)))
    have b4 : Below w.heap.size w w4 := b3.grown hg4 (by omega) (fun k hk => by have := g3.block_ge k hk; omega)
    exact b4.trans ((hb5.mono (by omega)).trans ((hb6.mono (by omega)).trans ((hb7.mono (by omega)).trans (hb8.mono (by omega)))))

set_option maxHeartbeats 1000000 in
theorem law_FnExactAskedFor (n : Int) (s : ByteArray) (k : Int) (w : World) (_ : (Lit.int .i64 n).wf = true) (hs : s.size ≤ maxLen) (_ : (Lit.int .i64 k).wf = true) :
    Calls Try.prog 5 #[.int .i64 n, .string s, .int .i64 k] w fun e w' => e = .returned (.bool true) ∧ Below w.heap.size w w' := by
  unfold maxLen at hs
  by_cases hl : 1048576 < (s.size : Int)
  · go_enter Try.func5, Try.ntmps5
    go_wp2_with fail
    go_ret
    exact ⟨rfl, Below.refl _ _⟩
  · have hl2 : s.size ≤ 1048576 := by omega
    have c1 := Lib.hid (fun w => spec_AskedFor n k s hl2 w)
    have c2 := Lib.hid (fun w => impl_AskedFor n k s hl2 w)
    have hlen : (AF n s.data.toList k).length ≤ 14 := AF_len n k _
    generalize AF n s.data.toList k = L at *
    go_enter Try.func5, Try.ntmps5
    go_wp2_with fail
    refine (c1.out _).mono ?_
    rintro e w1 ⟨v0, rfl, o1, hb1⟩
    go_wp2_with fail
    refine (c2.out _).mono ?_
    rintro e w2 ⟨g0, rfl, g2, hb2⟩
    have o2 := o1.below hb2
    go_wp2_with fail
    refine (eqIntS_yes _ _ L _ g2.rd o2.rd).mono ?_
    rintro e w3 ⟨rfl, hb3⟩
    have o3 := o2.below hb3
    have g3 := g2.below hb3
    go_wp2_with fail
    refine (markIntS_any _ _ L _ _ g3 (by omega) (by omega)).mono ?_
    rintro e w4 ⟨rfl, g4, hg4⟩
    have o4 := o3.grown hg4 (apart_blocks o1.rd.block_lt g3.block_ge)
    go_wp2_with fail
    refine (heldIntS_yes _ _ _ _ g4.rd (by omega) (by omega)).mono ?_
    rintro e w5 ⟨rfl, hb5⟩
    have o5 := o4.below hb5
    have g5 := g4.below hb5
    go_wp2_with fail
    refine (c2.out _).mono ?_
    rintro e w6 ⟨h0, rfl, h6, hb6⟩
    have o6 := o5.below hb6
    have g6 := g5.below hb6
    go_wp2_with fail
    refine (eqIntS_yes _ _ L _ h6.rd o6.rd).mono ?_
    rintro e w7 ⟨rfl, hb7⟩
    have g7 := g6.below hb7
    go_wp2_with fail
    refine (heldIntS_yes _ _ _ _ g7.rd (by omega) (by omega)).mono ?_
    rintro e w8 ⟨rfl, hb8⟩
    go_wp2_with fail
    go_ret
    refine ⟨rfl, ?_⟩
    have s1 := hb1.size
    have s2 := hb2.size
    have s3 := hb3.size
    have s4 := hg4.size
    have s5 := hb5.size
    have s6 := hb6.size
    have s7 := hb7.size
    have b3 : Below w.heap.size w w3 := hb1.trans ((hb2.mono s1).trans (hb3.mono (by omega)))
    have b4 : Below w.heap.size w w4 := b3.grown hg4 (by omega) (fun k hk => by have := g3.block_ge k hk; omega)
    exact b4.trans ((hb5.mono (by omega)).trans ((hb6.mono (by omega)).trans ((hb7.mono (by omega)).trans (hb8.mono (by omega)))))
end Go.Proofs.Ytbijpkphbepacaa
