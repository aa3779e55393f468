/- A tree of numbers, drawn, as a text. -/
import Derived.Test.YtanhdnbjepjhlaaProg
import Derived.Test.YtanhdnbjepjhlaaGrown1
namespace Go.Proofs.Ytanhdnbjepjhlaa
open Go.RowKit

theorem undrew {w w2 : World} {row : Option Nat} (h : w.drew.grownBy w2 row) : w.grownBy w2 row := ⟨h.os, h.tape, h.output, h.size, h.block⟩

def TrPost (R N n : Nat) (base : Nat) (w : World) (e : Ending) (w' : World) : Prop :=
  ∃ s : ByteArray, e = .returned (.string s) ∧ 1 ≤ s.size ∧ s.size + 2 ≤ 3 * n ∧ RdU w' R (N + (n - 1)) base ∧ w.grownBy w' (some R)

set_option maxHeartbeats 4000000 in
theorem tree_any (f : Nat) : ∀ (R N n g off cap base : Nat) (L : List Int) (w : World), n < f → 1 ≤ n → n ≤ 20 → N + n ≤ 1000000 → L.length = n → (∀ x ∈ L, 0 ≤ x ∧ x < 20) → OwL w base g off cap L → cap ≤ maxLen → R < base → base ≤ w.heap.size → RdU w R N base →
    Calls Try.prog 14 #[.pointer (some ⟨R, 0, none⟩), .slice (some ⟨g, off, none⟩) n cap] w (TrPost R N n base w) := by
  induction f with
  | zero => intro R N n g off cap base L w h; omega
  | succ f ih =>
    intro R N n g off cap base L w hf hn hn2 hN hL hbd ho hcm hR hbs hr
    unfold maxLen at hcm
    by_cases h1 : n = 1
    · subst h1
      have hc0 := ho.cells 0 (by omega)
      rw [Nat.add_zero] at hc0
      obtain ⟨hx0, hx1⟩ := hbd _ (getD_mem' (j := 0) (by omega))
      obtain ⟨i, hi⟩ : ∃ i : Nat, L.getD 0 0 = i := ⟨(L.getD 0 0).toNat, by omega⟩
      rw [hi] at hc0 hx1
      have hln : (((letter i).toNat : Nat) : Int) = 97 + (i : Int) := by rw [letter_toNat i (by omega)]; simp
      have hcv : ∀ W : World, (convert 22 9 (.slice (some ⟨W.heap.size, 0, none⟩) 1 1)).run Try.prog (W.alloc (.cells #[.int .u8 (97 + (i : Int))] 5)) = .ok (.string ⟨#[letter i]⟩) (W.alloc (.cells #[.int .u8 (97 + (i : Int))] 5)) := by
        intro W
        have := run_convert_bytes_back (P := Try.prog) (W.alloc (.cells #[.int .u8 (97 + (i : Int))] 5)) 22 9 5 ⟨W.heap.size, 0, none⟩ 1 [letter i] Try.underlying22 Try.underlying5 Try.underlying9 (by
          intro j hj
          simp only [List.length_cons, List.length_nil] at hj
          obtain rfl : j = 0 := by omega
          simp [Addr.add, hln])
        exact this
      have HR := Lib.hid hr
      have HBS := Lib.hid hbs
      clear ih hL hbd ho hi hln hr hbs
      go_enter Try.func14, Try.ntmps14
      go_wp2_with fail
      go_ret
      have hal : Below base w (w.alloc (.cells #[.int .u8 (97 + (i : Int))] 5)) := (Below.refl _ _).alloc HBS.out _
      exact ⟨_, rfl, Nat.le_refl 1, Nat.le_refl 3, (HR.out.below hal).more (by omega), grownBy_any _ ((Below.refl _ _).alloc (Nat.le_refl _) _)⟩
    · have hne : ((n : Int) == 1) = false := by rw [beq_eq_false_iff_ne]; omega
      have HI := Lib.hid ih
      have HO := Lib.hid ho
      have HBD := Lib.hid hbd
      have HL := Lib.hid hL
      have hle := ho.le
      have hnc : n ≤ cap := by omega
      clear ih ho hbd hL hle
      go_enter Try.func14, Try.ntmps14
      go_wp2_with fail
      refine (pick_u R N ((n : Int) - 1) (by omega) (by omega) (by omega) _ base hr).mono ?_
      rintro e w1 ⟨k0, rfl, hk0, hk1, hr1, hg1⟩
      obtain ⟨k, hk⟩ : ∃ k : Nat, 1 + k0 = k := ⟨(1 + k0).toNat, by omega⟩
      have hk2 : 1 ≤ k := by omega
      have hk3 : k < n := by omega
      have ho1 := HO.out.grown hg1 hR
      have hbs1 : base ≤ w1.heap.size := Nat.le_trans hbs hg1.size
      have HG1 := Lib.hid hg1
      have hl := HL.out
      have k1 := HI.out R (N + 1) k g off cap base (L.take k) w1.drew (by omega) hk2 (by omega) (by omega) (by rw [List.length_take]; omega) (fun x hx => HBD.out x (List.mem_of_mem_take hx)) (ho1.front k).drew (by unfold maxLen; omega) hR hbs1 hr1
      have k2 : ∀ w2, w1.drew.grownBy w2 (some R) → RdU w2 R (N + 1 + (k - 1)) base → Calls Try.prog 14 #[.pointer (some ⟨R, 0, none⟩), .slice (some ⟨g, off + k, none⟩) (n - k) (cap - k)] w2 (TrPost R (N + 1 + (k - 1)) (n - k) base w2) := by
        intro w2 hg2 hr2
        exact HI.out R (N + 1 + (k - 1)) (n - k) g (off + k) (cap - k) base (L.drop k) w2 (by omega) (by omega) (by omega) (by omega) (by rw [List.length_drop]; omega) (fun x hx => HBD.out x (List.mem_of_mem_drop hx)) ((ho1.drew.grown hg2 hR).cut k) (by unfold maxLen; omega) hR (Nat.le_trans hbs1 hg2.size) hr2
      have K1 := Lib.hid k1
      have K2 := Lib.hid k2
      have hkc : ¬ cap = k := by omega
      have hki0 : (0 : Int) ≤ (k : Int) := by omega
      have hki1 : (k : Int) ≤ (n : Int) := by omega
      have hki2 : (k : Int) ≤ (cap : Int) := by omega
      clear hk0 hk1 hr hg1 ho1 k1 k2 hl hr1
      go_wp2_with fail
      go_region_with (first
        | (go_at_call 14; (with_reducible refine K1.out.mono ?_); rintro e w2 ⟨s1, rfl, ha1, ha2, hr2, hg2⟩; have hz1 : s1.size ≤ 60 := (by omega))
        | (go_at_call 14; (with_reducible refine (K2.out _ hg2 hr2).mono ?_); rintro e w3 ⟨s2, rfl, hb1, hb2, hr3, hg3⟩; have hz2 : s2.size ≤ 60 := (by omega)))
      all_goals
        go_wp2_with fail
        go_ret
        refine ⟨_, rfl, ?_, ?_, hr3.more (by omega), grownBy_then2 HG1.out (grownBy_then2 (undrew hg2) hg3)⟩
        · simp only [ByteArray.size_append']; omega
        · have e40 : (ByteArray.mk #[40]).size = 1 := rfl
          have e41 : (ByteArray.mk #[41]).size = 1 := rfl
          simp only [ByteArray.size_append', e40, e41]
          omega
end Go.Proofs.Ytanhdnbjepjhlaa
