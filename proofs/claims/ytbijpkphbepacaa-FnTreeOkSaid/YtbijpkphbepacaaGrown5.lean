/- The law FnTreeOk. -/
import Derived.Test.YtbijpkphbepacaaProg
import Derived.Test.YtbijpkphbepacaaGrown4
import Derived.Test.YtbijpkphbepacaaTreeI
import Derived.Test.YtbijpkphbepacaaAlive
namespace Go.Proofs.Ytbijpkphbepacaa
open Go.RowKit

theorem TB_one : TB 1 [97] = true := by
  have h : P [97] = some (T.leaf 97, []) := P_of (t := .leaf 97) (fun c hc => by simp only [T.leaves, List.mem_singleton] at hc; subst hc; decide) []
  have : TO 1 [97] = some (T.leaf 97) := TO_some.2 ⟨by omega, h, by decide⟩
  unfold TB
  rw [this]
  rfl
/-- A tree and a new thing before it are a tree of one thing more. -/
theorem TB_more {m : Nat} {l : List UInt8} (hm : m < 9) (h : TB m l = true) : TB ((m : Int) + 1) (40 :: letter m :: (l ++ [41])) = true := by
  unfold TB at h
  cases e : TO m l with
  | none => rw [e] at h; cases h
  | some t =>
    obtain ⟨⟨h1, _⟩, h2, h3⟩ := TO_some.1 e
    obtain ⟨h4, h5⟩ := P_text h2
    rw [List.append_nil] at h4
    rw [Int.toNat_natCast] at h3
    have ho : (T.node (.leaf (letter m)) t).okL := okL_node.2 ⟨fun c hc => by simp only [T.leaves, List.mem_singleton] at hc; subst hc; exact letter_low m (by omega), h5⟩
    have hg : Good (m + 1) (.node (.leaf (letter m)) t) := by
      obtain ⟨g1, g2, g3⟩ := h3
      refine ⟨by simp [T.leaves, g1], ?_, fun i hi => ?_⟩
      · simp only [T.leaves, List.singleton_append, List.nodup_cons]
        refine ⟨fun hc => ?_, g2⟩
        obtain ⟨i, hi, hc⟩ := good_mem ⟨g1, g2, g3⟩ (by omega) hc
        have := letter_inj (by omega) (by omega) hc
        omega
      · simp only [T.leaves, List.singleton_append, List.mem_cons]
        by_cases hc : i = m
        · subst hc; exact .inl rfl
        · exact .inr (g3 i (by omega))
    have h6 := P_of ho []
    have h7 : (T.node (.leaf (letter m)) t).text ++ [] = 40 :: letter m :: (l ++ [41]) := by rw [h4]; simp [T.text]
    rw [h7] at h6
    have : TO ((m : Int) + 1) (40 :: letter m :: (l ++ [41])) = some (.node (.leaf (letter m)) t) := TO_some.2 ⟨by omega, h6, by rw [show ((m : Int) + 1).toNat = m + 1 by omega]; exact hg⟩
    unfold TB
    rw [this]
    rfl

set_option maxHeartbeats 2000000 in
theorem law_FnTreeOk (a0 : Option Addr) (len0 cap0 : Nat) (z0 : List Int) (w : World) (w0 : IsRow .u8 w a0 len0 cap0 z0) :
    Calls Try.prog 9 #[.slice a0 len0 cap0] w fun e w' => e = .returned (.bool true) ∧ Below w.heap.size w w' := by
  have hc := Code8.of_row w0
  clear w0
  by_cases hl : 1048576 < len0
  · go_enter Try.func9, Try.ntmps9
    go_wp2_with fail
    go_ret
    exact ⟨rfl, Below.refl _ _⟩
  · have k0 := Lib.hid (fun w => impl_TreeOk 1 ⟨#[97]⟩ (by decide) w)
    rw [show TB 1 (ByteArray.mk #[97]).data.toList = true from TB_one] at k0
    go_enter Try.func9, Try.ntmps9
    go_wp2_with fail
    refine (draw_TreeOk _ _ _ _ hc).mono ?_
    rintro e w1 ⟨m, s, rfl, hm1, hm2, hs, hb1⟩
    have k1 := Lib.hid (fun w => impl_TreeOk m s (by omega) w)
    have k2 := Lib.hid (fun w => spec_TreeOk m s (by omega) w)
    obtain ⟨b, hb⟩ : ∃ b, TB m s.data.toList = b := ⟨_, rfl⟩
    rw [hb] at k1 k2
    have HB := Lib.hid hb
    clear hc hb
    go_wp2_with fail
    refine (k1.out _).mono ?_
    rintro e w2 ⟨rfl, hb2⟩
    go_wp2_with fail
    refine (k2.out _).mono ?_
    rintro e w3 ⟨rfl, hb3⟩
    have hb4 := hb1.trans ((hb2.mono hb1.size).trans (hb3.mono (Nat.le_trans hb1.size hb2.size)))
    clear hb1 hb2 hb3 k1 k2
    cases b with
    | false =>
      go_wp2_with fail
      refine (k0.out _).mono ?_
      rintro e w5 ⟨rfl, hb5⟩
      have hb6 := hb4.trans (hb5.mono hb4.size)
      clear hb4 hb5
      go_wp2_with (first
        | (go_at_call 30; refine (alive_any _).mono ?_; rintro e w7 ⟨rfl, rfl⟩))
      go_ret
      exact ⟨rfl, hb6⟩
    | true =>
      by_cases h9 : m = 9
      · subst h9
        go_wp2_with fail
        refine (k0.out _).mono ?_
        rintro e w5 ⟨rfl, hb5⟩
        have hb6 := hb4.trans (hb5.mono hb4.size)
        clear hb4 hb5
        go_wp2_with (first
          | (go_at_call 30; refine (alive_any _).mono ?_; rintro e w7 ⟨rfl, rfl⟩))
        go_ret
        exact ⟨rfl, hb6⟩
      · have hln : (((letter m).toNat : Nat) : Int) = 97 + (m : Int) := by rw [letter_toNat m (by omega)]; simp
        have hcv : ∀ W : World, (convert 33 9 (.slice (some ⟨W.heap.size, 0, none⟩) 1 1)).run Try.prog (W.alloc (.cells #[.int .u8 (97 + (m : Int))] 5)) = .ok (.string ⟨#[letter m]⟩) (W.alloc (.cells #[.int .u8 (97 + (m : Int))] 5)) := by
          intro W
          have := run_convert_bytes_back (P := Try.prog) (W.alloc (.cells #[.int .u8 (97 + (m : Int))] 5)) 33 9 5 ⟨W.heap.size, 0, none⟩ 1 [letter m] Try.underlying33 Try.underlying5 Try.underlying9 (by
            intro j hj
            simp only [List.length_cons, List.length_nil] at hj
            obtain rfl : j = 0 := by omega
            simp [Addr.add, hln])
          exact this
        have hne : ((m : Int) == 9) = false := by rw [beq_eq_false_iff_ne]; omega
        have hsz : s.size ≤ 200 := hs
        have k3 : ∀ (x : Int) (u : ByteArray) (w : World), x = (m : Int) + 1 → u.data.toList = 40 :: letter m :: (s.data.toList ++ [41]) → Calls Try.prog 14 #[.int .i64 x, .string u] w (BPost true w) := by
          intro x u w hx hu
          subst hx
          have hz : u.size ≤ 1048576 := by
            have : u.size = u.data.toList.length := by cases u; rfl
            have h2 : s.size = s.data.toList.length := by cases s; rfl
            rw [this, hu]
            simp only [List.length_cons, List.length_append, List.length_nil]
            omega
          have := impl_TreeOk ((m : Int) + 1) u hz w
          rw [hu, TB_more (by omega) HB.out] at this
          exact this
        have K3 := Lib.hid k3
        clear k3 h9 hln
        go_wp2_with fail
        refine (k0.out _).mono ?_
        rintro e w5 ⟨rfl, hb5⟩
        have hb6 := hb4.trans (hb5.mono hb4.size)
        clear hb4 hb5
        go_wp2_with fail
        refine (K3.out _ _ _ (by rfl) (by simp)).mono ?_
        rintro e w6 ⟨rfl, hb7⟩
        have hb8 := hb6.trans (((Below.refl _ w5).alloc (Nat.le_refl _) (.cells #[.int .u8 (97 + (m : Int))] 5)).mono hb6.size)
        have hb9 := hb8.trans (hb7.mono hb8.size)
        clear hb6 hb7 hb8 hcv
        go_wp2_with (first
          | (go_at_call 30; refine (alive_any _).mono ?_; rintro e w7 ⟨rfl, rfl⟩))
        go_ret
        exact ⟨rfl, hb9⟩
end Go.Proofs.Ytbijpkphbepacaa
