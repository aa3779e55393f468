/- Trees in halves, both. -/
import Derived.Test.YtbijpkphbepacaaProg
import Derived.Test.YtbijpkphbepacaaBase
import Derived.Test.YtbijpkphbepacaaTree0
namespace Go.Proofs.Ytbijpkphbepacaa
open Go.RowKit

def halvesT : Nat → Nat → Nat → T
  | 0, a, _ => .leaf (letter a)
  | f + 1, a, b => if b = a + 1 then .leaf (letter a) else .node (halvesT f a (a + (b - a + 1) / 2)) (halvesT f (a + (b - a + 1) / 2) b)
theorem halvesT_len : ∀ (f a b : Nat), b - a ≤ f → a < b → (halvesT f a b).leaves.length = b - a
  | 0, a, b, h, h2 => by omega
  | f + 1, a, b, h, h2 => by
    rw [halvesT]
    split
    · rename_i e; subst e; simp [T.leaves]
    · rename_i e
      have h3 := halvesT_len f a (a + (b - a + 1) / 2) (by omega) (by omega)
      have h4 := halvesT_len f (a + (b - a + 1) / 2) b (by omega) (by omega)
      simp only [T.leaves, List.length_append]
      omega
theorem str_of_list {s : ByteArray} {l : List UInt8} (h : s.data.toList = l) : s = ⟨l.toArray⟩ := by
  subst h
  cases s
  simp
theorem enc_letter (a : Nat) (h : a < 26) : (Utf8.encode (97 + (a : Int))).data.toList = [letter a] := by
  have h1 : (97 + (a : Int)).toNat = 97 + a := by omega
  have h2 : Utf8.valid (97 + (a : Int)) = true := by rw [validRune_eq]; unfold validRune; exact decide_eq_true (.inl ⟨by omega, by omega⟩)
  unfold Utf8.encode
  simp only [h2, if_true, h1]
  rw [if_pos (by omega)]
  rfl

set_option maxHeartbeats 1000000 in
theorem halves_any (f : Nat) : ∀ (a b : Nat) (x y : Int) (w : World), x = a → y = b → b - a ≤ f → a < b → b ≤ 20 →
    Calls Try.prog 47 #[.int .i64 x, .int .i64 y] w fun e w' => ∃ s : ByteArray, e = .returned (.string s) ∧ s.data.toList = (halvesT f a b).text ∧ w = w' := by
  induction f with
  | zero => intro a b x y w _ _ h h2; omega
  | succ f ih =>
    intro a b x y w hx hy hf hab hb
    subst hx
    subst hy
    have IH := Lib.hid ih
    clear ih
    by_cases e : b = a + 1
    · subst e
      have henc := Lib.hid (enc_letter a (by omega))
      have ht : (halvesT (f + 1) a (a + 1)).text = [letter a] := by rw [halvesT, if_pos rfl]; rfl
      rw [ht]
      have h1 : ((((a + 1 : Nat) : Int) - (a : Int)) == 1) = true := by simp; omega
      have h2 : ((a : Int) + 1 - (a : Int) == 1) = true := by simp; omega
      clear ht hf
      go_enter Try.func47, Try.ntmps47
      go_wp2_with fail
      go_ret
      exact ⟨_, rfl, henc.out, rfl⟩
    · obtain ⟨m, hm⟩ : ∃ m, m = a + (b - a + 1) / 2 := ⟨_, rfl⟩
      have ht : (halvesT (f + 1) a b).text = 40 :: ((halvesT f a m).text ++ ((halvesT f m b).text ++ [41])) := by rw [halvesT, if_neg e, ← hm]; rfl
      rw [ht]
      have h1 : ((b : Int) - (a : Int) == 1) = false := by rw [beq_eq_false_iff_ne]; omega
      have hmi : (a : Int) + ((b : Int) - (a : Int) + 1) / 2 = (m : Int) := by rw [hm]; omega
      have k1 := fun w => IH.out a m a m w rfl rfl (by omega) (by omega) (by omega)
      have k2 := fun w => IH.out m b m b w rfl rfl (by omega) (by omega) (by omega)
      have l1 := text_len (halvesT f a m)
      have l2 := text_len (halvesT f m b)
      rw [halvesT_len f a m (by omega) (by omega)] at l1
      rw [halvesT_len f m b (by omega) (by omega)] at l2
      have hma : a < m := by omega
      have hmb : m < b := by omega
      generalize (halvesT f a m).text = t1 at *
      generalize (halvesT f m b).text = t2 at *
      have K1 := Lib.hid k1
      have K2 := Lib.hid k2
      clear ht k1 k2 hm e IH
      go_enter Try.func47, Try.ntmps47
      go_wp2_with fail
      refine (K1.out _).mono ?_
      rintro e w' ⟨s1, rfl, hs1, rfl⟩
      have hz1 : s1.size = t1.length := by rw [← hs1]; cases s1; rfl
      have hz1' : s1.size ≤ 100 := by omega
      have H1 := Lib.hid hs1
      clear hs1 hz1
      go_wp2_with fail
      refine (K2.out _).mono ?_
      rintro e w' ⟨s2, rfl, hs2, rfl⟩
      have hz2 : s2.size = t2.length := by rw [← hs2]; cases s2; rfl
      have hz2' : s2.size ≤ 100 := by omega
      have H2 := Lib.hid hs2
      clear hs2 hz2
      go_wp2_with fail
      go_ret
      refine ⟨_, rfl, ?_, rfl⟩
      rw [ByteArray.data_append, ByteArray.data_append, ByteArray.data_append]
      simp [H1.out, H2.out]

def HS (n : Int) : List UInt8 := if 1 ≤ n ∧ n ≤ 9 then (halvesT 20 0 n.toNat).text else []
theorem HS_out {n : Int} (h : ¬ (1 ≤ n ∧ n ≤ 9)) : HS n = [] := if_neg h

theorem impl_HalvesOf (n : Int) (w : World) : Calls Try.prog 28 #[.int .i64 n] w fun e w' => ∃ s : ByteArray, e = .returned (.string s) ∧ s.data.toList = HS n ∧ w = w' := by
  by_cases h : 1 ≤ n ∧ n ≤ 9
  · obtain ⟨n, rfl⟩ := Int.eq_ofNat_of_zero_le (show 0 ≤ n by omega)
    have e : HS n = (halvesT 20 0 n).text := if_pos h
    rw [e]
    obtain ⟨h1, h2⟩ := h
    have k := Lib.hid (fun w => halves_any 20 0 n 0 n w rfl rfl (by omega) (by omega) (by omega))
    clear e
    go_enter Try.func28, Try.ntmps28
    go_wp2_with (first | (go_at_call 41; refine (in_yes _ _ _ _ (by omega) (by omega)).mono ?_; rintro e w' ⟨rfl, rfl⟩))
    refine (k.out _).mono ?_
    rintro e w' ⟨s, rfl, hs, rfl⟩
    have HSS := Lib.hid hs
    clear hs
    go_wp2_with fail
    go_ret
    exact ⟨_, rfl, HSS.out, rfl⟩
  · rw [HS_out h]
    go_enter Try.func28, Try.ntmps28
    go_wp2_with (first | (go_at_call 41; refine (in_no _ _ _ _ (by omega)).mono ?_; rintro e w' ⟨rfl, rfl⟩))
    go_ret
    exact ⟨_, rfl, rfl, rfl⟩
set_option maxHeartbeats 1000000 in
theorem l1Halves_any (f : Nat) : ∀ (a b : Nat) (x y : Int) (w : World), x = a → y = b → b - a ≤ f → a < b → b ≤ 20 →
    Calls Try.prog 48 #[.int .i64 x, .int .i64 y] w fun e w' => ∃ s : ByteArray, e = .returned (.string s) ∧ s.data.toList = (halvesT f a b).text ∧ Below w.heap.size w w' := by
  induction f with
  | zero => intro a b x y w _ _ h h2; omega
  | succ f ih =>
    intro a b x y w hx hy hf hab hb
    subst hx
    subst hy
    have IH := Lib.hid ih
    clear ih
    by_cases e : b = a + 1
    · subst e
      have ht : (halvesT (f + 1) a (a + 1)).text = [letter a] := by rw [halvesT, if_pos rfl]; rfl
      rw [ht]
      have h1 : (((a + 1 : Nat) : Int) == (a : Int) + 1) = true := by simp
      have hln : (((letter a).toNat : Nat) : Int) = 97 + (a : Int) := by rw [letter_toNat a (by omega)]; simp
      have hcv : ∀ W : World, (convert 33 9 (.slice (some ⟨W.heap.size, 0, none⟩) 1 1)).run Try.prog (W.alloc (.cells #[.int .u8 (97 + (a : Int))] 5)) = .ok (.string ⟨#[letter a]⟩) (W.alloc (.cells #[.int .u8 (97 + (a : Int))] 5)) := by
        intro W
        have := run_convert_bytes_back (P := Try.prog) (W.alloc (.cells #[.int .u8 (97 + (a : Int))] 5)) 33 9 5 ⟨W.heap.size, 0, none⟩ 1 [letter a] Try.underlying33 Try.underlying5 Try.underlying9 (by
          intro j hj
          simp only [List.length_cons, List.length_nil] at hj
          obtain rfl : j = 0 := by omega
          simp [Addr.add, hln])
        exact this
      clear ht hf hln
      go_enter Try.func48, Try.ntmps48
      go_wp2_with fail
      go_ret
      exact ⟨_, rfl, rfl, (Below.refl _ _).alloc (Nat.le_refl _) _⟩
    · obtain ⟨m, hm⟩ : ∃ m, m = a + (b - a + 1) / 2 := ⟨_, rfl⟩
      have ht : (halvesT (f + 1) a b).text = 40 :: ((halvesT f a m).text ++ ((halvesT f m b).text ++ [41])) := by rw [halvesT, if_neg e, ← hm]; rfl
      rw [ht]
      have h1 : ((b : Int) == (a : Int) + 1) = false := by rw [beq_eq_false_iff_ne]; omega
      have hmi : (a : Int) + ((b : Int) - (a : Int) + 1) / 2 = (m : Int) := by rw [hm]; omega
      have k1 := fun w => IH.out a m a m w rfl rfl (by omega) (by omega) (by omega)
      have k2 := fun w => IH.out m b m b w rfl rfl (by omega) (by omega) (by omega)
      have l1 := text_len (halvesT f a m)
      have l2 := text_len (halvesT f m b)
      rw [halvesT_len f a m (by omega) (by omega)] at l1
      rw [halvesT_len f m b (by omega) (by omega)] at l2
      have hma : a < m := by omega
      have hmb : m < b := by omega
      generalize (halvesT f a m).text = t1 at *
      generalize (halvesT f m b).text = t2 at *
      have K1 := Lib.hid k1
      have K2 := Lib.hid k2
      clear ht k1 k2 hm e IH
      go_enter Try.func48, Try.ntmps48
      go_wp2_with fail
      refine (K1.out _).mono ?_
      rintro e w1 ⟨s1, rfl, hs1, hb1⟩
      have hz1 : s1.size = t1.length := by rw [← hs1]; cases s1; rfl
      have hz1' : s1.size ≤ 100 := by omega
      have H1 := Lib.hid hs1
      clear hs1 hz1
      go_wp2_with fail
      refine (K2.out _).mono ?_
      rintro e w2 ⟨s2, rfl, hs2, hb2⟩
      have hz2 : s2.size = t2.length := by rw [← hs2]; cases s2; rfl
      have hz2' : s2.size ≤ 100 := by omega
      have H2 := Lib.hid hs2
      have HB := Lib.hid (hb1.trans (hb2.mono hb1.size))
      clear hs2 hz2 hb1 hb2
      go_wp2_with fail
      go_ret
      refine ⟨_, rfl, ?_, HB.out⟩
      rw [ByteArray.data_append, ByteArray.data_append, ByteArray.data_append]
      simp [H1.out, H2.out]

theorem spec_HalvesOf (n : Int) (w : World) : Calls Try.prog 29 #[.int .i64 n] w fun e w' => ∃ s : ByteArray, e = .returned (.string s) ∧ s.data.toList = HS n ∧ Below w.heap.size w w' := by
  by_cases h : 1 ≤ n ∧ n ≤ 9
  · obtain ⟨n, rfl⟩ := Int.eq_ofNat_of_zero_le (show 0 ≤ n by omega)
    have e : HS n = (halvesT 20 0 n).text := if_pos h
    rw [e]
    obtain ⟨h1, h2⟩ := h
    have k := Lib.hid (fun w => l1Halves_any 20 0 n 0 n w rfl rfl (by omega) (by omega) (by omega))
    clear e
    go_enter Try.func29, Try.ntmps29
    go_wp2_with (first | (go_at_call 37; refine (l1In_yes _ _ _ _ (by omega) (by omega)).mono ?_; rintro e w' ⟨rfl, rfl⟩))
    refine (k.out _).mono ?_
    rintro e w' ⟨s, rfl, hs, hb⟩
    have HSS := Lib.hid hs
    clear hs
    go_wp2_with fail
    go_ret
    exact ⟨_, rfl, HSS.out, hb⟩
  · rw [HS_out h]
    go_enter Try.func29, Try.ntmps29
    go_wp2_with (first | (go_at_call 37; refine (l1In_no _ _ _ _ (by omega)).mono ?_; rintro e w' ⟨rfl, rfl⟩))
    go_ret
    exact ⟨_, rfl, rfl, Below.refl _ _⟩
end Go.Proofs.Ytbijpkphbepacaa
