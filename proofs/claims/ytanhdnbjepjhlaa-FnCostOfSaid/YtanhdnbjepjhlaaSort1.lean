/- slices.Sort of at most twelve numbers: Go sorts them by insertion. -/
import Derived.Test.YtanhdnbjepjhlaaProg
import Derived.Test.YtanhdnbjepjhlaaSort0
import Derived.Test.YtanhdnbjepjhlaaHuff
import Derived.Deep.RegionWith
import Derived.Deep.RegionHeld3
import Derived.Lib.Tables
namespace Go.Proofs.Ytanhdnbjepjhlaa
open Go.RowKit

theorem isNaN_any (a : Int) (w : World) : Calls Try.prog 54 #[.int .i64 a] w fun e w' => e = .returned (.bool false) ∧ w = w' := by
  go_enter Try.func54, Try.ntmps54
  go_wp2_with fail
  go_ret
  exact ⟨ret_bool (by simp), rfl⟩
theorem less_any (a b : Int) (w : World) : Calls Try.prog 42 #[.int .i64 a, .int .i64 b] w fun e w' => e = .returned (.bool (decide (a < b))) ∧ w = w' := by
  go_enter Try.func42, Try.ntmps42
  go_wp2_with (first | (go_at_call 54; refine (isNaN_any _ _).mono ?_; rintro e w' ⟨rfl, rfl⟩))
  go_ret
  exact ⟨rfl, rfl⟩
theorem less_yes {a b : Int} (h : a < b) (w : World) : Calls Try.prog 42 #[.int .i64 a, .int .i64 b] w fun e w' => e = .returned (.bool true) ∧ w' = w := by
  have := less_any a b w
  rw [decide_eq_true h] at this
  exact this.mono fun _ _ ⟨h1, h2⟩ => ⟨h1, h2.symm⟩
theorem less_no {a b : Int} (h : b ≤ a) (w : World) : Calls Try.prog 42 #[.int .i64 a, .int .i64 b] w fun e w' => e = .returned (.bool false) ∧ w' = w := by
  have := less_any a b w
  rw [decide_eq_false (by omega)] at this
  exact this.mono fun _ _ ⟨h1, h2⟩ => ⟨h1, h2.symm⟩

/-- A list is split where the insertion stands. -/
structure Spl (xs L A : List Int) (x : Int) (C R : List Int) : Prop where
  eq : L = A ++ x :: (C ++ R)
  perm : L.Perm xs
  sorted : (A ++ C).Pairwise (· ≤ ·)
  lo : ∀ c ∈ C, x ≤ c

theorem getD_app1 (A : List Int) (x : Int) (D : List Int) : (A ++ x :: D).getD A.length 0 = x := by simp [List.getD]
theorem getD_app2 (A : List Int) (y x : Int) (D : List Int) : (A ++ y :: x :: D).getD (A.length + 1) 0 = x := by simp [List.getD]
theorem swap_set (A : List Int) (y x : Int) (D : List Int) : ((A ++ y :: x :: D).set (A.length + 1) y).set A.length x = A ++ x :: y :: D := by
  rw [List.set_append_right _ _ (by omega), List.set_append_right _ _ (by omega)]
  simp

theorem Spl.swap {xs L A : List Int} {y x : Int} {C R : List Int} (h : Spl xs L (A ++ [y]) x C R) (hxy : x < y) : Spl xs (A ++ x :: ((y :: C) ++ R)) A x (y :: C) R := by
  refine ⟨rfl, ?_, ?_, ?_⟩
  · refine List.Perm.trans ?_ h.perm
    rw [h.eq, List.append_assoc]
    exact List.Perm.append_left A (List.Perm.swap y x (C ++ R))
  · have := h.sorted
    rw [List.append_assoc] at this
    exact this
  · intro c hc
    rcases List.mem_cons.1 hc with rfl | hc
    · omega
    · exact h.lo c hc
theorem Spl.done0 {xs L : List Int} {x : Int} {C R : List Int} (h : Spl xs L [] x C R) : (x :: C).Pairwise (· ≤ ·) := List.pairwise_cons.2 ⟨h.lo, by simpa using h.sorted⟩
theorem Spl.done1 {xs L A : List Int} {y x : Int} {C R : List Int} (h : Spl xs L (A ++ [y]) x C R) (hxy : y ≤ x) : ((A ++ [y]) ++ x :: C).Pairwise (· ≤ ·) := by
  have hs := h.sorted
  rw [List.pairwise_append] at hs ⊢
  obtain ⟨h1, h2, h3⟩ := hs
  refine ⟨h1, List.pairwise_cons.2 ⟨h.lo, h2⟩, fun a ha b hb => ?_⟩
  rcases List.mem_cons.1 hb with rfl | hb
  · rw [List.pairwise_append] at h1
    rcases List.mem_append.1 ha with ha | ha
    · have := h1.2.2 a ha y (by simp); omega
    · simp at ha; omega
  · exact h3 a ha b hb
/-- the first i numbers are sorted -/
structure Srt (xs L : List Int) (i : Nat) : Prop where
  perm : L.Perm xs
  sorted : (L.take i).Pairwise (· ≤ ·)
theorem Srt.split {xs L : List Int} {i : Nat} (h : Srt xs L i) (hi : i < L.length) : Spl xs L (L.take i) (L.getD i 0) [] (L.drop (i + 1)) := by
  refine ⟨?_, h.perm, by simpa using h.sorted, by simp⟩
  rw [List.nil_append, List.getD_eq_getElem?_getD, List.getElem?_eq_getElem hi, Option.getD_some, ← List.drop_eq_getElem_cons hi, List.take_append_drop]
theorem Spl.srt {xs L A : List Int} {x : Int} {C R : List Int} (h : Spl xs L A x C R) (hs : (A ++ x :: C).Pairwise (· ≤ ·)) : Srt xs L (A.length + C.length + 1) := by
  refine ⟨h.perm, ?_⟩
  rw [h.eq, show A ++ x :: (C ++ R) = (A ++ x :: C) ++ R by simp, List.take_left' (by simp; omega)]
  exact hs
theorem Srt.isort {xs L : List Int} {i : Nat} (h : Srt xs L i) (hi : L.length ≤ i) : L = isort xs := by
  have := h.sorted
  rw [List.take_of_length_le hi] at this
  exact (isort_uniq this h.perm).symm

set_option maxHeartbeats 4000000 in
theorem insertion_any (g off cap n : Nat) (xs : List Int) (base : Nat) (w : World) (hn : xs.length = n) (hn2 : n ≤ 12) (h : OwL w base g off cap xs) :
    Calls Try.prog 36 #[.slice (some ⟨g, off, none⟩) n cap, .int .i64 0, .int .i64 n] w fun e w' => (∃ v, e = .returned v) ∧ OwL w' base g off cap (isort xs) ∧ Below base w w' := by
  have hlen : ∀ {L : List Int}, L.Perm xs → L.length = n := fun hp => hp.length_eq.trans hn
  have HLEN := Lib.hid (fun (L : List Int) (hp : L.Perm xs) => (hp.length_eq.trans hn : L.length = n))
  have hbg := h.base_le
  have HO := Lib.hid h
  clear hlen hn h
  go_enter Try.func36, Try.ntmps36
  go_wp2_with fail
  go_loopw [6] (fun v wr => ∃ (i : Nat) (L : List Int), v = .int .i64 i ∧ 1 ≤ i ∧ i ≤ max n 1 ∧ Hid (Srt xs L i) ∧ OwL wr base g off cap L ∧ Below base w wr) (fun v _ => n - (intOf v).toNat)
  case atStart => exact ⟨1, xs, rfl, by omega, by omega, ⟨List.Perm.refl _, by match xs with | [] => simp | x :: _ => simp⟩, HO.out, Below.refl _ _⟩
  case round =>
    clear HO
    obtain ⟨i, L, rfl, hi1, hi2, hs, ho, hb⟩ := hrel
    have hL := HLEN.out L hs.out.perm
    by_cases hlt : i < n
    · have hsp := hs.out.split (by omega)
      obtain ⟨wo, hwo⟩ : ∃ wo : World, wo = wr := ⟨_, rfl⟩
      subst hwo
      have HSP := Lib.hid hsp
      clear hsp hs hL
      go_wp2_with fail
      go_loopw [7] (fun v wr => ∃ (L A C R : List Int) (x : Int), v = .int .i64 (A.length : Nat) ∧ A.length + C.length = i ∧ Hid (Spl xs L A x C R) ∧ OwL wr base g off cap L ∧ Below base w wr) (fun v _ => (intOf v).toNat)
      case atStart => exact ⟨L, L.take i, [], L.drop (i + 1), L.getD i 0, by simp [List.length_take]; have := HLEN.out L HSP.out.perm; omega, by simp [List.length_take]; have := HLEN.out L HSP.out.perm; omega, HSP.out, ho, hb⟩
      case round =>
        clear HSP ho hb
        obtain ⟨L, A, C, R, x, rfl, hAC, hs, ho, hb⟩ := hrel
        have hL := HLEN.out L hs.out.perm
        rcases List.eq_nil_or_concat A with rfl | ⟨A', y, hA⟩
        · have hdone := hs.out.srt hs.out.done0
          simp only [List.length_nil, Nat.zero_add] at hAC hdone
          rw [hAC] at hdone
          have HD := Lib.hid hdone
          clear hs hdone hL
          go_wp2_with fail
          go_quiet (fail)
          go_wp2_with fail
          go_roundw
          case rel => exact ⟨i + 1, L, by go_num, by omega, by omega, HD.out, ho.drewN _, below_drewN hb _⟩
          case measure => simp [intOf]; omega
        · rw [List.concat_eq_append] at hA
          subst hA
          obtain ⟨k, hk⟩ : ∃ k, A'.length = k := ⟨_, rfl⟩
          have hjl : (((A' ++ [y]).length : Nat) : Int) = (k : Int) + 1 := by simp [hk]
          rw [hjl]
          have hAC2 : k + 1 + C.length = i := by rw [← hAC, ← hk]; simp
          have heq : L = A' ++ y :: x :: (C ++ R) := by rw [hs.out.eq]; simp
          have hk1 : k + 1 < L.length := by rw [heq, ← hk]; simp
          have hcx := ho.cells (k + 1) hk1
          have hcy := ho.cells k (by omega)
          rw [heq, ← hk, getD_app2, hk] at hcx
          rw [heq, ← hk, getD_app1, hk] at hcy
          have hfx := (ho.room (k + 1) (by have := ho.le; omega)).2
          have hfy := (ho.room k (by have := ho.le; omega)).2
          have hw : IntKind.i64.wrap ((k : Int) + 1 - 1) = (k : Int) := by rw [show (k : Int) + 1 - 1 = k by omega]; exact IntWalk.i64_in _ (by omega)
          have hi0 : (0 : Int) ≤ (k : Int) + 1 := by omega
          have hi1 : (k : Int) + 1 < (n : Int) := by omega
          have hi2 : (0 : Int) ≤ (k : Int) := by omega
          have hi3 : (k : Int) < (n : Int) := by omega
          have HEQ := Lib.hid heq
          have HK := Lib.hid hk
          by_cases hxy : x < y
          · have hs2 := hs.out.swap hxy
            have HS2 := Lib.hid hs2
            have kl := Lib.hid (fun w => less_yes hxy w)
            have HO := Lib.hid ho
            clear hs hs2 hAC hjl heq hk hL ho
            go_wp2_with fail
            go_quiet ((go_at_call 42; exact Calls.quiet_of_same (kl.out _)))
            go_wp2_with fail
            generalize hw0 : wr.drewN _ = w0
            have hO0 : OwL w0 base g off cap L := by rw [← hw0]; exact HO.out.drewN _
            have hB0 : Below base w w0 := by rw [← hw0]; exact below_drewN hb _
            have hcx0 := hO0.cells (k + 1) hk1
            have hcy0 := hO0.cells k (by omega)
            rw [HEQ.out, ← HK.out, getD_app2, HK.out] at hcx0
            rw [HEQ.out, ← HK.out, getD_app1, HK.out] at hcy0
            have hfx0 := (hO0.room (k + 1) (by have := hO0.le; omega)).2
            have hfy0 := (hO0.room k (by have := hO0.le; omega)).2
            have HO0 := Lib.hid hO0
            have hne : (⟨g, off + (k + 1), none⟩ : Addr) ≠ ⟨g, off + k, none⟩ := by intro h; injection h with _ h _; omega
            clear hw0 hO0 hcx hcy hfx hfy hb HO
            go_region
            all_goals go_wp2_with fail
            all_goals go_roundw
            case rel =>
              clear hw
              refine ⟨A' ++ x :: ((y :: C) ++ R), A', y :: C, R, x, by rw [HK.out], by have := HK.out; simp; omega, HS2.out, ?_, ?_⟩
              · have := (HO0.out.set (k + 1) y hk1).set k x (by rw [List.length_set]; omega)
                rw [HEQ.out, ← HK.out, swap_set, HK.out] at this
                exact this.drew
              · exact ((hB0.setCell (p := ⟨g, off + (k + 1), none⟩) hbg _).setCell (p := ⟨g, off + k, none⟩) hbg _).drew
            case measure => simp [intOf]
          · have hyx : y ≤ x := by omega
            have hdone := hs.out.srt (hs.out.done1 hyx)
            rw [show (A' ++ [y]).length + C.length + 1 = i + 1 by omega] at hdone
            have HD := Lib.hid hdone
            have kl := Lib.hid (fun w => less_no hyx w)
            clear hs hAC hjl heq hk hL hdone hxy
            go_wp2_with fail
            go_quiet ((go_at_call 42; exact Calls.quiet_of_same (kl.out _)))
            go_wp2_with fail
            go_roundw
            case rel => exact ⟨i + 1, L, by go_num, by omega, by omega, HD.out, ho.drewN _, below_drewN hb _⟩
            case measure => simp [intOf]; omega
    · have hfin := hs.out.isort (by rw [hL]; omega)
      have HF := Lib.hid hfin
      clear hs hL hfin
      go_wp2_with fail
      go_end0
      exact ⟨⟨_, rfl⟩, by rw [← HF.out]; exact ho, hb⟩
end Go.Proofs.Ytanhdnbjepjhlaa
