/- GuessesOk of the reference model; guesses copied and compared; the law FnExactGuessesOk. -/
import Derived.Test.YtkkjgcpkimjfkaaProg
import Derived.Test.YtkkjgcpkimjfkaaGs1
import Derived.Test.YtkkjgcpkimjfkaaClone
import Derived.StillTailTactics
import Derived.BigQuiet
namespace Go.Proofs.Ytkkjgcpkimjfkaa
open Go.RowKit

set_option maxHeartbeats 2000000 in
theorem spec_GuessesOk (p c : Int) (v : Value) (gs : List Gs) (w : World) (h : RdG w v gs) :
    Calls Try.prog 25 #[.int .i64 p, .int .i64 c, v] w (BelRet (GOk p c gs) w) := by
  obtain ⟨a, ca, rfl, hm, ha⟩ := h
  unfold maxLen at hm
  have HA := Lib.hid ha
  clear ha
  generalize hn : gs.length = n at *
  have HN := Lib.hid hn
  clear hn
  go_enter Try.func25, Try.ntmps25
  go_wp2_with fail
  go_loopw [7] (fun q wr => ∃ k : Nat, k ≤ n ∧ q = .int .i64 k ∧ Hid (∀ j, j < k → GBad p c (gs.getD j gNil) = false) ∧ Below w.heap.size w wr) (fun q _ => n - (intOf q).toNat)
  case atStart => exact ⟨0, by omega, rfl, fun j hj => by omega, Below.refl _ _⟩
  case round =>
    obtain ⟨k, hk, rfl, HP, hbel⟩ := hrel
    by_cases hlt : k < n
    · have hne : gs ≠ [] := by intro e; have := HN.out; rw [e] at this; simp at this; omega
      obtain ⟨g, off, rfl, hc⟩ := HA.out hne
      obtain ⟨u, h1, hru, h2, h3⟩ := hc k hlt
      have hg := World.block_lt_of_cell? w _ h1
      have c1 := (hbel.cell (p := ⟨g, off + k * 3, none⟩) hg).trans h1
      have c2 := (hbel.cell (p := ⟨g, off + k * 3 + 1, none⟩) hg).trans h2
      have c3 := (hbel.cell (p := ⟨g, off + k * 3 + 2, none⟩) hg).trans h3
      have K := Lib.hid (spec_CodeOk p c u (gs.getD k gNil).code wr (hru.below hbel))
      obtain ⟨x, cx, rfl, _, _⟩ := hru
      have HBad : Hid (GBad p c (gs.getD k gNil) = (!(COk p c (gs.getD k gNil).code) || (decide ((gs.getD k gNil).right < 0) || decide ((gs.getD k gNil).near < 0)))) := rfl
      have HPK : Hid (GBad p c (gs.getD k gNil) = false → ∀ j, j < k + 1 → GBad p c (gs.getD j gNil) = false) := by
        intro hb j hj
        by_cases e : j = k
        · rw [e]; exact hb
        · exact HP.out j (by omega)
      have HHit : Hid (GBad p c (gs.getD k gNil) = true → GOk p c gs = false) := by
        intro hb
        have := any_hit (P := GBad p c) (by rw [HN.out]; exact hlt) hb
        simp [GOk, this]
      generalize (gs.getD k gNil).right = r at *
      generalize (gs.getD k gNil).near = q at *
      generalize (gs.getD k gNil).code.length = lk at *
      generalize GBad p c (gs.getD k gNil) = bb at *
      generalize COk p c (gs.getD k gNil).code = bc at *
      have HB := Lib.hid hbel
      have hi0 : (0 : Int) ≤ (k : Int) := by omega
      have hi1 : (k : Int) < (n : Int) := by omega
      clear hc hne h1 h2 h3 HP hbel
      cases bc with
      | false =>
        have HR := Lib.hid (HHit.out (by rw [HBad.out]; rfl))
        go_wp2_with fail
        refine K.out.mono ?_
        rintro e w1 ⟨rfl, rfl⟩
        go_wp2_with fail
        go_ret
        exact ⟨ret_bool HR.out.symm, HB.out⟩
      | true =>
        by_cases hr0 : r < 0
        · have HR := Lib.hid (HHit.out (by rw [HBad.out]; simp [hr0]))
          go_wp2_with fail
          refine K.out.mono ?_
          rintro e w1 ⟨rfl, rfl⟩
          go_wp2_with fail
          go_ret
          exact ⟨ret_bool HR.out.symm, HB.out⟩
        · have hr1 : decide (r < 0) = false := decide_eq_false hr0
          by_cases hn0 : q < 0
          · have HR := Lib.hid (HHit.out (by rw [HBad.out]; simp [hn0]))
            go_wp2_with fail
            refine K.out.mono ?_
            rintro e w1 ⟨rfl, rfl⟩
            go_wp2_with fail
            go_ret
            exact ⟨ret_bool HR.out.symm, HB.out⟩
          · have hn1 : decide (q < 0) = false := decide_eq_false hn0
            have HR := Lib.hid (HPK.out (by rw [HBad.out, hr1, hn1]; rfl))
            go_wp2_with fail
            refine K.out.mono ?_
            rintro e w1 ⟨rfl, rfl⟩
            go_wp2_with fail
            go_roundw
            case rel => exact ⟨k + 1, by omega, by go_num, HR.out, HB.out⟩
            case measure => simp [intOf]; omega
    · have hkn : k = n := by omega
      have hM : gs.any (GBad p c) = false := any_miss (fun j hj => HP.out j (by rw [hkn, ← HN.out]; exact hj))
      have HB := Lib.hid hbel
      by_cases h1 : 1 ≤ p ∧ p ≤ 3
      · by_cases h2 : 1 ≤ c ∧ c ≤ 5
        · have hcs : CsOk p c = true := decide_eq_true ⟨h1, h2⟩
          have HR : Hid (GOk p c gs = decide (n ≤ 9)) := by show _ = _; simp [GOk, hcs, hM, HN.out]
          obtain ⟨h1, h1'⟩ := h1
          obtain ⟨h2, h2'⟩ := h2
          clear HP hbel hkn hM hcs
          go_wp2_with (first
            | (go_at_call 41; refine (l1In_yes _ _ _ _ (by omega) (by omega)).mono ?_; rintro e w' ⟨rfl, rfl⟩))
          go_ret
          exact ⟨ret_bool (by rw [HR.out]; simp; omega), HB.out⟩
        · have hcs : CsOk p c = false := decide_eq_false (by omega)
          have HR : Hid (GOk p c gs = false) := by show _ = _; simp [GOk, hcs]
          obtain ⟨h1, h1'⟩ := h1
          clear HP hbel hkn hM hcs
          go_wp2_with (first
            | (go_at_call 41; refine (l1In_yes _ _ _ _ (by omega) (by omega)).mono ?_; rintro e w' ⟨rfl, rfl⟩)
            | (go_at_call 41; refine (l1In_no _ _ _ _ (by omega)).mono ?_; rintro e w' ⟨rfl, rfl⟩))
          go_ret
          exact ⟨ret_bool HR.out.symm, HB.out⟩
      · have hcs : CsOk p c = false := decide_eq_false (by omega)
        have HR : Hid (GOk p c gs = false) := by show _ = _; simp [GOk, hcs]
        clear HP hbel hkn hM hcs
        go_wp2_with (first
          | (go_at_call 41; refine (l1In_no _ _ _ _ (by omega)).mono ?_; rintro e w' ⟨rfl, rfl⟩))
        go_ret
        exact ⟨ret_bool HR.out.symm, HB.out⟩
end Go.Proofs.Ytkkjgcpkimjfkaa
