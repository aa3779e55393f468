/- What is found, and how many cups break. -/
import Derived.Test.YtpmbioeemkioaaaProg
import Derived.Test.YtpmbioeemkioaaaFloors4
namespace Go.Proofs.Ytpmbioeemkioaaa
open Go.RowKit

def sHi (br h0 : Int) (L : List Int) : Int := L.foldl (fun h x => if br ≤ x then min h x else h) h0
def sLo (br l0 : Int) (L : List Int) : Int := L.foldl (fun l x => if br ≤ x then l else max l x) l0
def sN (br : Int) (L : List Int) : Nat := (L.filter fun x => decide (br ≤ x)).length

theorem play_inv (br : Int) (d : Nat) : ∀ (lo hi : Int) (c : Nat), lo < hi →
    sHi br hi (play br d lo hi c).list = (play br d lo hi c).hi ∧ sLo br lo (play br d lo hi c).list = (play br d lo hi c).lo ∧ sN br (play br d lo hi c).list + (play br d lo hi c).c = c ∧
    (play br d lo hi c).list.length + (play br d lo hi c).d = d ∧ (∀ x ∈ (play br d lo hi c).list, lo < x ∧ x < hi) := by
  induction d with
  | zero => intro lo hi c h; exact ⟨rfl, rfl, by simp [play, sN], by simp [play], by simp [play]⟩
  | succ d ih =>
    intro lo hi c h
    by_cases hs : c = 0 ∨ hi - lo ≤ 1
    · rw [play, if_pos hs]; exact ⟨rfl, rfl, by simp [sN], by simp, by simp⟩
    · rw [play, if_neg hs]
      have hA := Ap_pos (c - 1) d
      simp only []
      generalize hF : min (hi - 1) (lo + (Ap (c - 1) d : Int)) = F
      have h1 : lo < F := by omega
      have h2 : F < hi := by omega
      by_cases hb : br ≤ F
      · obtain ⟨i1, i2, i3, i4, i5⟩ := ih lo F (c - 1) h1
        simp only [if_pos hb]
        refine ⟨?_, ?_, ?_, ?_, ?_⟩
        · simp only [sHi, List.foldl_cons, if_pos hb, show min hi F = F by omega]; exact i1
        · simp only [sLo, List.foldl_cons, if_pos hb]; exact i2
        · simp only [sN, List.filter_cons, hb, decide_true, if_true, List.length_cons] at i3 ⊢; omega
        · simp only [List.length_cons]; omega
        · intro x hx; simp only [List.mem_cons] at hx
          rcases hx with rfl | hx
          · exact ⟨h1, h2⟩
          · have := i5 x hx; omega
      · obtain ⟨i1, i2, i3, i4, i5⟩ := ih F hi c h2
        simp only [if_neg hb]
        refine ⟨?_, ?_, ?_, ?_, ?_⟩
        · simp only [sHi, List.foldl_cons, if_neg hb]; exact i1
        · simp only [sLo, List.foldl_cons, if_neg hb, show max lo F = F by omega]; exact i2
        · simp only [sN, List.filter_cons, hb, decide_false] at i3 ⊢; exact i3
        · simp only [List.length_cons]; omega
        · intro x hx; simp only [List.mem_cons] at hx
          rcases hx with rfl | hx
          · exact ⟨h1, h2⟩
          · have := i5 x hx; omega

/-- The end of the game. -/
def EndOf (f b c d : Int) : Pl := play b d.toNat 0 (f + 1) c.toNat
theorem EndOf_nat (f b : Int) (c d : Nat) : EndOf f b c d = play b d 0 (f + 1) c := by unfold EndOf; simp
def FBlo (f b c d : Int) : Int := if DPok f b c d then (EndOf f b c d).lo else 0
def FBhi (f b c d : Int) : Int := if DPok f b c d then (EndOf f b c d).hi else 0
def BI (f b c d : Int) : Int := if DPok f b c d then c - (EndOf f b c d).c else -1
theorem DP_in (f b c d : Int) (h : DPok f b c d) : DP f b c d = (EndOf f b c d).list := by unfold DP EndOf; rw [if_pos h]

set_option maxHeartbeats 1000000 in
theorem dropped_no (f b c d : Int) (hno : ¬ DPok f b c d) (w : World) : Calls Try.prog 42 #[.int .i64 f, .int .i64 b, .int .i64 c, .int .i64 d] w
    fun e w' => e = .returned (.tuple #[.slice none 0 0, .agg #[.int .i64 0, .int .i64 0, .int .i64 0, .int .i64 0], .bool false]) ∧ Below w.heap.size w w' := by
  rcases DP_cases f b c d with h | ⟨h1, h⟩ | ⟨h1, h2, h⟩ | ⟨h1, h2, h3, h⟩ | ⟨h1, h2, h3, h4⟩
  iterate 4
    · clear hno
      go_enter Try.func42, Try.ntmps42
      go_wp2_with (first
        | (go_at_call 39; refine (in_yes _ _ _ _ (by omega) (by omega)).mono ?_; rintro e w' ⟨rfl, rfl⟩)
        | (go_at_call 39; refine (in_no _ _ _ _ (by omega)).mono ?_; rintro e w' ⟨rfl, rfl⟩))
      refine bodyPost_ret (v := .tuple #[.slice none 0 0, .agg #[.int .i64 0, .int .i64 0, .int .i64 0, .int .i64 0], .bool false]) (by simp [results, Try.results42, go_sem]) rfl ⟨rfl, ?_⟩
      go_grown
  · exact absurd ⟨h1, h2, h3, h4⟩ hno

theorem dropped_in (f b c d : Int) (h : DPok f b c d) (w : World) : Calls Try.prog 42 #[.int .i64 f, .int .i64 b, .int .i64 c, .int .i64 d] w
    fun e w' => ∃ v, e = .returned (.tuple #[v, .agg #[.int .i64 (EndOf f b c d).lo, .int .i64 (EndOf f b c d).hi, .int .i64 (EndOf f b c d).c, .int .i64 (EndOf f b c d).d], .bool true]) ∧ Ow w' w.heap.size v (EndOf f b c d).list ∧ Below w.heap.size w w' := by
  obtain ⟨h1, h2, h3, h4⟩ := h
  obtain ⟨c, rfl⟩ := Int.eq_ofNat_of_zero_le h3.1
  obtain ⟨d, rfl⟩ := Int.eq_ofNat_of_zero_le h4.1
  exact dropped_yes f b c d h1 h2 (by omega) (by omega) _ (by rw [app_nil]; exact (EndOf_nat f b c d).symm) w

set_option maxHeartbeats 1000000 in
theorem impl_DropsPlayed (f b c d : Int) (w : World) : Calls Try.prog 26 #[.int .i64 f, .int .i64 b, .int .i64 c, .int .i64 d] w
    fun e w' => ∃ v, e = .returned v ∧ Ow w' w.heap.size v (DP f b c d) ∧ Below w.heap.size w w' := by
  by_cases h : DPok f b c d
  · have hc := Lib.hid (dropped_in f b c d h)
    rw [DP_in f b c d h]
    generalize EndOf f b c d = P at *
    clear h
    go_enter Try.func26, Try.ntmps26
    go_wp2_with (first | (go_at_call 42; (with_reducible refine (hc.out _).mono ?_); rintro e w1 ⟨v, rfl, ho, hb⟩; have hz := hb.size))
    go_ret
    exact ⟨_, rfl, ho.below (by go_grown), by go_grown⟩
  · rw [DP_out f b c d h]
    go_enter Try.func26, Try.ntmps26
    go_wp2_with (first | (go_at_call 42; (with_reducible refine (dropped_no f b c d h _).mono ?_); rintro e w1 ⟨rfl, hb⟩; have hz := hb.size))
    go_ret
    exact ⟨_, rfl, Ow.nil _ _ _ _, by go_grown⟩

theorem FBlo_in (f b c d : Int) (h : DPok f b c d) : FBlo f b c d = (EndOf f b c d).lo := by unfold FBlo; rw [if_pos h]
theorem FBhi_in (f b c d : Int) (h : DPok f b c d) : FBhi f b c d = (EndOf f b c d).hi := by unfold FBhi; rw [if_pos h]
theorem FBlo_out (f b c d : Int) (h : ¬ DPok f b c d) : FBlo f b c d = 0 := by unfold FBlo; rw [if_neg h]
theorem FBhi_out (f b c d : Int) (h : ¬ DPok f b c d) : FBhi f b c d = 0 := by unfold FBhi; rw [if_neg h]
theorem BI_in (f b c d : Int) (h : DPok f b c d) : BI f b c d = c - (EndOf f b c d).c := by unfold BI; rw [if_pos h]
theorem BI_out (f b c d : Int) (h : ¬ DPok f b c d) : BI f b c d = -1 := by unfold BI; rw [if_neg h]
theorem EndOf_c (f b c d : Int) (h : DPok f b c d) : ((EndOf f b c d).c : Int) ≤ c ∧ 0 ≤ c ∧ c ≤ 8 := by
  obtain ⟨h1, h2, h3, h4⟩ := h
  have := (play_inv b d.toNat 0 (f + 1) c.toNat (by omega)).2.2.1
  unfold EndOf
  omega

set_option maxHeartbeats 1000000 in
theorem impl_BrokenIn (f b c d : Int) (w : World) : Calls Try.prog 22 #[.int .i64 f, .int .i64 b, .int .i64 c, .int .i64 d] w
    fun e w' => e = .returned (.int .i64 (BI f b c d)) ∧ Below w.heap.size w w' := by
  by_cases h : DPok f b c d
  · have hc := Lib.hid (dropped_in f b c d h)
    have hcc := EndOf_c f b c d h
    rw [BI_in f b c d h]
    generalize EndOf f b c d = P at *
    clear h
    go_enter Try.func22, Try.ntmps22
    go_wp2_with (first | (go_at_call 42; (with_reducible refine (hc.out _).mono ?_); rintro e w1 ⟨v, rfl, ho, hb⟩; have hz := hb.size))
    go_ret
    exact ⟨rfl, by go_grown⟩
  · rw [BI_out f b c d h]
    go_enter Try.func22, Try.ntmps22
    go_wp2_with (first | (go_at_call 42; (with_reducible refine (dropped_no f b c d h _).mono ?_); rintro e w1 ⟨rfl, hb⟩; have hz := hb.size))
    go_ret
    exact ⟨rfl, by go_grown⟩

set_option maxHeartbeats 1000000 in
theorem impl_FoundBy (f b c d : Int) (w : World) : Calls Try.prog 24 #[.int .i64 f, .int .i64 b, .int .i64 c, .int .i64 d] w
    fun e w' => e = .returned (.tuple #[.int .i64 (FBlo f b c d), .int .i64 (FBhi f b c d), .bool (decide (DPok f b c d))]) ∧ Below w.heap.size w w' := by
  by_cases h : DPok f b c d
  · have hc := Lib.hid (dropped_in f b c d h)
    rw [FBlo_in f b c d h, FBhi_in f b c d h, decide_eq_true h]
    generalize EndOf f b c d = P at *
    clear h
    go_enter Try.func24, Try.ntmps24
    go_wp2_with (first | (go_at_call 42; (with_reducible refine (hc.out _).mono ?_); rintro e w1 ⟨v, rfl, ho, hb⟩; have hz := hb.size))
    go_quiet (fail)
    go_wp2_with fail
    go_ret3
    exact ⟨rfl, below_drewN (by go_grown) _⟩
  · rw [FBlo_out f b c d h, FBhi_out f b c d h, decide_eq_false h]
    go_enter Try.func24, Try.ntmps24
    go_wp2_with (first | (go_at_call 42; (with_reducible refine (dropped_no f b c d h _).mono ?_); rintro e w1 ⟨rfl, hb⟩; have hz := hb.size))
    go_quiet (fail)
    go_wp2_with fail
    go_ret3
    exact ⟨rfl, below_drewN (by go_grown) _⟩

theorem sHi_snoc (br h0 : Int) (L : List Int) (x : Int) : sHi br h0 (L ++ [x]) = if br ≤ x then min (sHi br h0 L) x else sHi br h0 L := by simp [sHi]
theorem sLo_snoc (br h0 : Int) (L : List Int) (x : Int) : sLo br h0 (L ++ [x]) = if br ≤ x then sLo br h0 L else max (sLo br h0 L) x := by simp [sLo]
theorem sN_snoc (br : Int) (L : List Int) (x : Int) : sN br (L ++ [x]) = if br ≤ x then sN br L + 1 else sN br L := by
  by_cases h : br ≤ x <;> simp [sN, List.filter_append, List.filter_cons, h]
theorem take_succ_getD (L : List Int) (k : Nat) (h : k < L.length) : L.take (k + 1) = L.take k ++ [L.getD k 0] := by
  rw [List.take_succ_eq_append_getElem h]; simp [List.getD, h]

set_option maxHeartbeats 2000000 in
theorem spec_BrokenIn (f b c d : Int) (w : World) : Calls Try.prog 21 #[.int .i64 f, .int .i64 b, .int .i64 c, .int .i64 d] w
    fun e w' => e = .returned (.int .i64 (BI f b c d)) ∧ Below w.heap.size w w' := by
  rcases DP_cases f b c d with h | ⟨h1, h⟩ | ⟨h1, h2, h⟩ | ⟨h1, h2, h3, h⟩ | ⟨h1, h2, h3, h4⟩
  iterate 4
    · rw [BI_out f b c d (by unfold DPok; omega)]
      go_enter Try.func21, Try.ntmps21
      go_wp2_with (first
        | (go_at_call 38; refine (l1In_yes _ _ _ _ (by omega) (by omega)).mono ?_; rintro e w' ⟨rfl, rfl⟩)
        | (go_at_call 38; refine (l1In_no _ _ _ _ (by omega)).mono ?_; rintro e w' ⟨rfl, rfl⟩))
      go_ret
      exact ⟨rfl, Below.refl _ _⟩
  · have hinv := play_inv b d.toNat 0 (f + 1) c.toNat (by omega)
    have hL : (DP f b c d) = (EndOf f b c d).list := DP_in f b c d ⟨h1, h2, h3, h4⟩
    have hbi : BI f b c d = sN b (DP f b c d) := by
      rw [BI_in f b c d ⟨h1, h2, h3, h4⟩, hL]
      have := hinv.2.2.1
      unfold EndOf
      omega
    have hlen : (DP f b c d).length ≤ 14 := by rw [hL]; have := hinv.2.2.2.1; unfold EndOf; omega
    rw [hbi]
    have hc := Lib.hid (spec_DropsPlayed f b c d)
    generalize DP f b c d = L at *
    clear hinv hL hbi
    go_enter Try.func21, Try.ntmps21
    go_wp2_with (first
      | (go_at_call 38; refine (l1In_yes _ _ _ _ (by omega) (by omega)).mono ?_; rintro e w' ⟨rfl, rfl⟩)
      | (go_at_call 25; (with_reducible refine (hc.out _).mono ?_); rintro e w1 ⟨v, rfl, ⟨a, ca, rfl, hm, ho⟩, hb⟩))
    go_loopw [9, 11] (fun n v wr => ∃ k : Nat, k ≤ L.length ∧ v = .int .i64 k ∧ n = .int .i64 (sN b (L.take k)) ∧ sN b (L.take k) ≤ k ∧ w1 = wr) (fun _ v _ => L.length - (intOf v).toNat)
    case atStart => exact ⟨0, by omega, rfl, rfl, by simp [sN], rfl⟩
    case round =>
      obtain ⟨k, hk, rfl, rfl, hn, rfl⟩ := hrel
      by_cases hlt : k < L.length
      · have hne : L ≠ [] := by intro e; rw [e] at hlt; simp at hlt
        obtain ⟨g, off, rfl, _, ho'⟩ := ho hne
        have hck := (ho' k hlt).1
        have hts := take_succ_getD L k hlt
        generalize L.getD k 0 = x at *
        have hi0 : (0 : Int) ≤ (k : Int) := by omega
        have hi1 : (k : Int) < (L.length : Int) := by omega
        have hS := sN_snoc b (L.take k) x
        rw [← hts] at hS
        have HS := Lib.hid hS
        clear hts hS ho' ho hne
        by_cases hbx : b ≤ x
        · go_wp2_with fail
          go_roundw
          case rel => exact ⟨k + 1, by omega, by go_num, by rw [HS.out, if_pos hbx]; go_num, by rw [HS.out, if_pos hbx]; omega, by trivial⟩
          case measure => simp [intOf]; omega
        · go_wp2_with fail
          go_roundw
          case rel => exact ⟨k + 1, by omega, by go_num, by rw [HS.out, if_neg hbx], by rw [HS.out, if_neg hbx]; omega, by trivial⟩
          case measure => simp [intOf]; omega
      · have hk' : k = L.length := by omega
        have HK := Lib.hid hk'
        clear hk' ho
        go_wp2_with fail
        go_ret
        exact ⟨ret_int (by rw [HK.out, List.take_length]), hb⟩

set_option maxHeartbeats 2000000 in
theorem spec_FoundBy (f b c d : Int) (w : World) : Calls Try.prog 23 #[.int .i64 f, .int .i64 b, .int .i64 c, .int .i64 d] w
    fun e w' => e = .returned (.tuple #[.int .i64 (FBlo f b c d), .int .i64 (FBhi f b c d), .bool (decide (DPok f b c d))]) ∧ Below w.heap.size w w' := by
  rcases DP_cases f b c d with h | ⟨h1, h⟩ | ⟨h1, h2, h⟩ | ⟨h1, h2, h3, h⟩ | ⟨h1, h2, h3, h4⟩
  iterate 4
    · have hno : ¬ DPok f b c d := by unfold DPok; omega
      rw [FBlo_out f b c d hno, FBhi_out f b c d hno, decide_eq_false hno]
      clear hno
      go_enter Try.func23, Try.ntmps23
      go_wp2_with (first
        | (go_at_call 38; refine (l1In_yes _ _ _ _ (by omega) (by omega)).mono ?_; rintro e w' ⟨rfl, rfl⟩)
        | (go_at_call 38; refine (l1In_no _ _ _ _ (by omega)).mono ?_; rintro e w' ⟨rfl, rfl⟩))
      go_ret3
      exact ⟨rfl, Below.refl _ _⟩
  · have hyes : DPok f b c d := ⟨h1, h2, h3, h4⟩
    have hinv := play_inv b d.toNat 0 (f + 1) c.toNat (by omega)
    have hL : (DP f b c d) = (EndOf f b c d).list := DP_in f b c d hyes
    have hlo : FBlo f b c d = sLo b 0 (DP f b c d) := by rw [FBlo_in f b c d hyes, hL]; exact hinv.2.1.symm
    have hhi : FBhi f b c d = sHi b (f + 1) (DP f b c d) := by rw [FBhi_in f b c d hyes, hL]; exact hinv.1.symm
    have hlen : (DP f b c d).length ≤ 14 := by rw [hL]; have := hinv.2.2.2.1; unfold EndOf; omega
    rw [hlo, hhi, decide_eq_true hyes]
    have hc := Lib.hid (spec_DropsPlayed f b c d)
    generalize DP f b c d = L at *
    clear hinv hL hlo hhi hyes
    go_enter Try.func23, Try.ntmps23
    go_wp2_with (first
      | (go_at_call 38; refine (l1In_yes _ _ _ _ (by omega) (by omega)).mono ?_; rintro e w' ⟨rfl, rfl⟩)
      | (go_at_call 25; (with_reducible refine (hc.out _).mono ?_); rintro e w1 ⟨v, rfl, ⟨a, ca, rfl, hm, ho⟩, hb⟩))
    go_loopw [11, 12, 14] (fun l h v wr => ∃ k : Nat, k ≤ L.length ∧ v = .int .i64 k ∧ l = .int .i64 (sLo b 0 (L.take k)) ∧ h = .int .i64 (sHi b (f + 1) (L.take k)) ∧ w1 = wr) (fun _ _ v _ => L.length - (intOf v).toNat)
    case atStart => exact ⟨0, by omega, rfl, rfl, rfl, rfl⟩
    case round =>
      obtain ⟨k, hk, rfl, rfl, rfl, rfl⟩ := hrel
      by_cases hlt : k < L.length
      · have hne : L ≠ [] := by intro e; rw [e] at hlt; simp at hlt
        obtain ⟨g, off, rfl, _, ho'⟩ := ho hne
        have hck := (ho' k hlt).1
        have hts := take_succ_getD L k hlt
        generalize L.getD k 0 = x at *
        have hi0 : (0 : Int) ≤ (k : Int) := by omega
        have hi1 : (k : Int) < (L.length : Int) := by omega
        have hS := sLo_snoc b 0 (L.take k) x
        have hT := sHi_snoc b (f + 1) (L.take k) x
        rw [← hts] at hS hT
        have HS := Lib.hid hS
        have HT := Lib.hid hT
        clear hts hS hT ho' ho hne
        generalize sLo b 0 (L.take k) = lo at *
        generalize sHi b (f + 1) (L.take k) = hi at *
        by_cases hbx : b ≤ x
        · go_wp2_with fail
          all_goals
            go_roundw
            case rel => exact ⟨k + 1, by omega, by go_num, by rw [HS.out, if_pos hbx], by rw [HT.out, if_pos hbx]; go_num, by trivial⟩
            case measure => simp [intOf]; omega
        · go_wp2_with fail
          all_goals
            go_roundw
            case rel => exact ⟨k + 1, by omega, by go_num, by rw [HS.out, if_neg hbx]; go_num, by rw [HT.out, if_neg hbx], by trivial⟩
            case measure => simp [intOf]; omega
      · have hk' : k = L.length := by omega
        have HK := Lib.hid hk'
        clear hk' ho
        go_wp2_with fail
        go_ret3
        refine ⟨?_, hb⟩
        have : L.take k = L := by rw [HK.out, List.take_length]
        simp [this]

theorem law_FnExactBrokenIn (a0 a1 a2 a3 : Int) (w : World) (_ : (Lit.int .i64 a0).wf = true) (_ : (Lit.int .i64 a1).wf = true) (_ : (Lit.int .i64 a2).wf = true) (_ : (Lit.int .i64 a3).wf = true) :
    Calls Try.prog 6 #[.int .i64 a0, .int .i64 a1, .int .i64 a2, .int .i64 a3] w fun e w' => e = .returned (.bool true) ∧ Below w.heap.size w w' := by
  go_enter Try.func6, Try.ntmps6
  go_wp2_with (first
    | (go_at_call 21; refine (spec_BrokenIn _ _ _ _ _).mono ?_; rintro e w1 ⟨rfl, hb1⟩)
    | (go_at_call 22; refine (impl_BrokenIn _ _ _ _ _).mono ?_; rintro e w2 ⟨rfl, hb2⟩))
  go_ret
  exact ⟨rfl, hb1.trans (hb2.mono hb1.size)⟩

set_option maxHeartbeats 1000000 in
theorem law_FnExactFoundBy (a0 a1 a2 a3 : Int) (w : World) (_ : (Lit.int .i64 a0).wf = true) (_ : (Lit.int .i64 a1).wf = true) (_ : (Lit.int .i64 a2).wf = true) (_ : (Lit.int .i64 a3).wf = true) :
    Calls Try.prog 7 #[.int .i64 a0, .int .i64 a1, .int .i64 a2, .int .i64 a3] w fun e w' => e = .returned (.bool true) ∧ Below w.heap.size w w' := by
  have c1 := Lib.hid (spec_FoundBy a0 a1 a2 a3)
  have c2 := Lib.hid (impl_FoundBy a0 a1 a2 a3)
  generalize FBlo a0 a1 a2 a3 = lo at *
  generalize FBhi a0 a1 a2 a3 = hi at *
  generalize decide (DPok a0 a1 a2 a3) = ok at *
  cases ok
  all_goals
    go_enter Try.func7, Try.ntmps7
    go_wp2_with (first
      | (go_at_call 23; (with_reducible refine (c1.out _).mono ?_); rintro e w1 ⟨rfl, hb1⟩)
      | (go_at_call 24; (with_reducible refine (c2.out _).mono ?_); rintro e w2 ⟨rfl, hb2⟩))
    go_ret
    exact ⟨rfl, hb1.trans (hb2.mono hb1.size)⟩

set_option maxHeartbeats 2000000 in
theorem law_FnExactDropsPlayed (a0 a1 a2 a3 : Int) (w : World) (_ : (Lit.int .i64 a0).wf = true) (_ : (Lit.int .i64 a1).wf = true) (_ : (Lit.int .i64 a2).wf = true) (_ : (Lit.int .i64 a3).wf = true) :
    Calls Try.prog 8 #[.int .i64 a0, .int .i64 a1, .int .i64 a2, .int .i64 a3] w fun e w' => e = .returned (.bool true) ∧ Below w.heap.size w w' := by
  have c1 := Lib.hid (spec_DropsPlayed a0 a1 a2 a3)
  have c2 := Lib.hid (impl_DropsPlayed a0 a1 a2 a3)
  have hlen : (DP a0 a1 a2 a3).length ≤ 14 := by
    by_cases h : DPok a0 a1 a2 a3
    · rw [DP_in _ _ _ _ h]; obtain ⟨h1, h2, h3, h4⟩ := h; have := (play_inv a1 a3.toNat 0 (a0 + 1) a2.toNat (by omega)).2.2.2.1; unfold EndOf; omega
    · rw [DP_out _ _ _ _ h]; simp
  generalize DP a0 a1 a2 a3 = L at *
  go_enter Try.func8, Try.ntmps8
  go_wp2_with fail
  refine (c1.out _).mono ?_
  rintro e w1 ⟨v0, rfl, o1, hb1⟩
  go_wp2_with fail
  refine (c2.out _).mono ?_
  rintro e w2 ⟨g0, rfl, g2, hb2⟩
  have o2 := o1.below hb2
  go_wp2_with fail
  refine (eqIntS_yes _ _ L _ g2.rd o2.rd).mono ?_
  rintro e w3 ⟨rfl, hb3⟩
  have o3 := o2.below hb3
  have g3 := g2.below hb3
  go_wp2_with fail
  refine (markIntS_any _ _ L _ _ g3 (by omega) (by omega)).mono ?_
  rintro e w4 ⟨rfl, g4, hg4⟩
  have o4 := o3.grown hg4 (apart_blocks o1.rd.block_lt g3.block_ge)
  go_wp2_with fail
  refine (heldIntS_yes _ _ _ _ g4.rd (by omega) (by omega)).mono ?_
  rintro e w5 ⟨rfl, hb5⟩
  have o5 := o4.below hb5
  have g5 := g4.below hb5
  go_wp2_with fail
  refine (c2.out _).mono ?_
  rintro e w6 ⟨h0, rfl, h6, hb6⟩
  have o6 := o5.below hb6
  have g6 := g5.below hb6
  go_wp2_with fail
  refine (eqIntS_yes _ _ L _ h6.rd o6.rd).mono ?_
  rintro e w7 ⟨rfl, hb7⟩
  have g7 := g6.below hb7
  go_wp2_with fail
  refine (heldIntS_yes _ _ _ _ g7.rd (by omega) (by omega)).mono ?_
  rintro e w8 ⟨rfl, hb8⟩
  go_wp2_with fail
  go_ret
  refine ⟨rfl, ?_⟩
  have s1 := hb1.size
  have s2 := hb2.size
  have s3 := hb3.size
  have s4 := hg4.size
  have s5 := hb5.size
  have s6 := hb6.size
  have s7 := hb7.size
  have b3 : Below w.heap.size w w3 := hb1.trans ((hb2.mono s1).trans (hb3.mono (by omega)))
  have b4 : Below w.heap.size w w4 := b3.grown hg4 (by omega) (fun k hk => by have := g3.block_ge k hk; omega)
  exact b4.trans ((hb5.mono (by omega)).trans ((hb6.mono (by omega)).trans ((hb7.mono (by omega)).trans (hb8.mono (by omega)))))
end Go.Proofs.Ytpmbioeemkioaaa
