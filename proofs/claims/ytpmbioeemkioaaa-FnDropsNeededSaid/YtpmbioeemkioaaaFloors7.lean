/- Plain laws of the play, and the drawn arguments of chapter 2. -/
import Derived.Test.YtpmbioeemkioaaaProg
import Derived.Test.YtpmbioeemkioaaaFloors6
namespace Go.Proofs.Ytpmbioeemkioaaa
open Go.RowKit

theorem play_between (br : Int) (d : Nat) : ∀ (lo hi : Int) (c : Nat), lo < br → br ≤ hi → (play br d lo hi c).lo < br ∧ br ≤ (play br d lo hi c).hi := by
  induction d with
  | zero => intro lo hi c h1 h2; exact ⟨h1, h2⟩
  | succ d ih =>
    intro lo hi c h1 h2
    by_cases hs : c = 0 ∨ hi - lo ≤ 1
    · rw [play, if_pos hs]; exact ⟨h1, h2⟩
    · rw [play, if_neg hs]
      simp only []
      generalize min (hi - 1) (lo + (Ap (c - 1) d : Int)) = F
      by_cases hb : br ≤ F
      · simp only [if_pos hb]; exact ih lo F (c - 1) h1 hb
      · simp only [if_neg hb]; exact ih F hi c (by omega) h2

theorem play_found (br : Int) (d : Nat) : ∀ (lo hi : Int) (c : Nat), lo < br → br ≤ hi → hi - lo ≤ (Ap c d : Int) → (play br d lo hi c).lo = br - 1 ∧ (play br d lo hi c).hi = br := by
  induction d with
  | zero => intro lo hi c h1 h2 h3; rw [Ap_zero] at h3; simp only [play]; omega
  | succ d ih =>
    intro lo hi c h1 h2 h3
    by_cases hs : c = 0 ∨ hi - lo ≤ 1
    · rw [play, if_pos hs]
      have : hi - lo ≤ 1 := by
        rcases hs with hs | hs
        · rw [hs, Ap] at h3; omega
        · exact hs
      simp only []; omega
    · obtain ⟨c, rfl⟩ : ∃ k, c = k + 1 := ⟨c - 1, by omega⟩
      rw [play, if_neg hs]
      rw [Ap] at h3
      have hA := Ap_pos c d
      have hA' := Ap_pos (c + 1) d
      simp only [Nat.add_sub_cancel]
      generalize hF : min (hi - 1) (lo + (Ap c d : Int)) = F
      by_cases hb : br ≤ F
      · simp only [if_pos hb]; exact ih lo F c h1 hb (by omega)
      · simp only [if_neg hb]; exact ih F hi (c + 1) (by omega) h2 (by omega)

theorem play_nodup (br : Int) (d : Nat) : ∀ (lo hi : Int) (c : Nat), lo < hi → (play br d lo hi c).list.Nodup := by
  induction d with
  | zero => intro lo hi c _; simp [play]
  | succ d ih =>
    intro lo hi c h
    by_cases hs : c = 0 ∨ hi - lo ≤ 1
    · rw [play, if_pos hs]; simp
    · rw [play, if_neg hs]
      have hA := Ap_pos (c - 1) d
      simp only []
      generalize hF : min (hi - 1) (lo + (Ap (c - 1) d : Int)) = F
      have h1 : lo < F := by omega
      have h2 : F < hi := by omega
      by_cases hb : br ≤ F
      · simp only [if_pos hb, List.nodup_cons]
        exact ⟨fun hm => by have := (play_inv br d lo F (c - 1) h1).2.2.2.2 F hm; omega, ih lo F (c - 1) h1⟩
      · simp only [if_neg hb, List.nodup_cons]
        exact ⟨fun hm => by have := (play_inv br d F hi c h2).2.2.2.2 F hm; omega, ih F hi c h2⟩

theorem play_empty (br lo hi : Int) (c d : Nat) (h : (play br d lo hi c).list ≠ []) : 0 < c := by
  cases d with
  | zero => simp [play] at h
  | succ d =>
    rw [play] at h
    split at h
    · simp at h
    · omega

theorem sN_le (br : Int) (L : List Int) : sN br L ≤ L.length := by unfold sN; exact List.length_filter_le _ _
theorem sN_none (br : Int) (L : List Int) (h : ∀ x ∈ L, x < br) : sN br L = 0 := by
  unfold sN
  rw [List.length_eq_zero_iff, List.filter_eq_nil_iff]
  intro x hx
  have := h x hx
  simp; omega

theorem getD_mem (L : List Int) (k : Nat) (h : k < L.length) : L.getD k 0 ∈ L := by
  rw [List.getD_eq_getElem?_getD, List.getElem?_eq_getElem h]; exact List.getElem_mem h
theorem nodup_getD {L : List Int} (h : L.Nodup) {j k : Nat} (hjk : j < k) (hk : k < L.length) : L.getD j 0 ≠ L.getD k 0 := by
  rw [List.getD_eq_getElem?_getD, List.getD_eq_getElem?_getD, List.getElem?_eq_getElem (by omega), List.getElem?_eq_getElem hk]
  simp only [Option.getD_some]
  intro e
  have := (List.pairwise_iff_getElem.1 h) j k (by omega) hk hjk
  exact this e

def DrewFour (P : Int → Int → Int → Int → Prop) (w : World) (e : Ending) (w' : World) : Prop :=
  ∃ f b c d : Int, e = .returned (.tuple #[.int .i64 f, .int .i64 b, .int .i64 c, .int .i64 d]) ∧ P f b c d ∧ Below w.heap.size w w'
def FourOk (f b c d : Int) : Prop := (0 ≤ f ∧ f ≤ 100000) ∧ (-100000 ≤ b ∧ b ≤ 100000) ∧ (0 ≤ c ∧ c ≤ 100) ∧ (-100 ≤ d ∧ d ≤ 100)

set_option maxHeartbeats 1000000 in
theorem spec_DrawNextDrop (a : Option Addr) (len cap : Nat) (w : World) (h : Code8 w a len cap) :
    Calls Try.prog 32 #[.slice a len cap] w (DrewFour FourOk w) := by
  go_enter Try.func32, Try.ntmps32
  go_wp2_with fail
  refine (open_any a len cap _ h).mono ?_
  rintro e w1 ⟨rfl, hr1, hb1⟩
  go_wp2_with fail
  refine (pick_any _ _ _ (by omega) (by omega) (by omega) _ hr1).mono ?_
  rintro e w2 ⟨v2, rfl, l2, u2, hr2, hg2⟩
  go_wp2_with fail
  refine (pick_any _ _ _ (by omega) (by omega) (by omega) _ hr2).mono ?_
  rintro e w3 ⟨v3, rfl, l3, u3, hr3, hg3⟩
  go_wp2_with fail
  refine (pick_any _ _ _ (by omega) (by omega) (by omega) _ hr3).mono ?_
  rintro e w4 ⟨v4, rfl, l4, u4, hr4, hg4⟩
  go_wp2_with fail
  refine (pick_any _ _ _ (by omega) (by omega) (by omega) _ hr4).mono ?_
  rintro e w5 ⟨v5, rfl, l5, u5, hr5, hg5⟩
  go_wp2_with fail
  refine bodyPost_ret (v := .tuple #[.int .i64 v2, .int .i64 (v2 + v3), .int .i64 v4, .int .i64 v5]) (by simp [results, Try.results32, go_sem]) rfl ?_
  exact ⟨_, _, _, _, rfl, ⟨by omega, by omega, by omega, by omega⟩, below_pick (below_pick (below_pick (below_pick hb1 hg2 (Nat.le_refl _)) hg3 (Nat.le_refl _)) hg4 (Nat.le_refl _)) hg5 (Nat.le_refl _)⟩

theorem DN_bd (f c : Int) : -1 ≤ DN f c ∧ DN f c ≤ 15 := by
  have key : ∀ n f c d : Nat, d + n ≤ 15 → -1 ≤ dnFrom f c d n ∧ dnFrom f c d n ≤ 15 := by
    intro n
    induction n with
    | zero => intro f c d _; simp [dnFrom]
    | succ n ih => intro f c d h; rw [dnFrom]; split
                   · omega
                   · exact ih f c (d + 1) (by omega)
  unfold DN
  split
  · exact key 15 _ _ 0 (by omega)
  · omega

/-- Four arguments, with the reader's world. -/
def DrewFourR (R : Nat) (w : World) (e : Ending) (w' : World) : Prop :=
  ∃ f b c d : Int, e = .returned (.tuple #[.int .i64 f, .int .i64 b, .int .i64 c, .int .i64 d]) ∧ FourOk f b c d ∧ w.grownBy w' (some R)

theorem grown_trans {w w1 w2 : World} {row : Option Nat} (h : w.grownBy w1 row) (g : w1.grownBy w2 row) : w.grownBy w2 row :=
  ⟨g.os.trans h.os, g.tape.trans h.tape, g.output.trans h.output, Nat.le_trans h.size g.size, fun k hk hne => (g.block k (Nat.lt_of_lt_of_le hk h.size) hne).trans (h.block k hk hne)⟩
theorem grown_alloc {w w1 : World} {row : Option Nat} (h : w.grownBy w1 row) (o : Obj) : w.grownBy (w1.alloc o) row := grown_trans h (World.grownBy_alloc _ _ _)
theorem grown_then {w w1 w2 : World} {row : Option Nat} (h : w.grownBy w1 row) (b : Below w1.heap.size w1 w2) : w.grownBy w2 row := grown_trans h (grownBy_any row b)

set_option maxHeartbeats 4000000 in
theorem spec_l20Dropped (R N : Nat) (hN : N ≤ 1000) (w : World) (h : Rdr w R N) :
    Calls Try.prog 46 #[.pointer (some ⟨R, 0, none⟩)] w (DrewFourR R w) := by
  go_enter Try.func46, Try.ntmps46
  go_wp2_with fail
  refine (pick_any _ _ _ (by omega) (by omega) (by omega) _ h).mono ?_
  rintro e w2 ⟨v2, rfl, l2, u2, hr2, hg2⟩
  go_wp2_with fail
  refine (pick_any _ _ _ (by omega) (by omega) (by omega) _ hr2).mono ?_
  rintro e w3 ⟨v3, rfl, l3, u3, hr3, hg3⟩
  go_wp2_with fail
  refine (pick_any _ _ _ (by omega) (by omega) (by omega) _ (hr3.below ((Below.refl _ _).alloc (Nat.le_refl _) _))).mono ?_
  rintro e w4 ⟨v4, rfl, l4, u4, hr4, hg4⟩
  have hRB : R < w3.heap.size := hr3.lt
  have c0 : w4.cell? ⟨w3.heap.size, 0, none⟩ = some (.int .i64 v2) := hg4.cell (by simp) (by simp; omega)
  have c1 : w4.cell? ⟨w3.heap.size, 1, none⟩ = some (.int .i64 v3) := hg4.cell (by simp) (by simp; omega)
  have c2 : w4.cell? ⟨w3.heap.size, 2, none⟩ = some (.int .i64 9000) := hg4.cell (by simp) (by simp; omega)
  have g4 : w.grownBy w4 (some R) := grown_trans (grown_trans (grown_trans hg2 hg3) (World.grownBy_alloc _ _ _)) hg4
  have hq : ∃ (q : Nat) (f : Int), v4 / 4 = (q : Int) ∧ q < 3 ∧ w4.cell? ⟨w3.heap.size, q, none⟩ = some (.int .i64 f) ∧ 0 ≤ f ∧ f ≤ 9000 := by
    have : v4 / 4 = 0 ∨ v4 / 4 = 1 ∨ v4 / 4 = 2 := by omega
    rcases this with e | e | e
    · exact ⟨0, v2, e, by omega, c0, by omega, by omega⟩
    · exact ⟨1, v3, e, by omega, c1, by omega, by omega⟩
    · exact ⟨2, 9000, e, by omega, c2, by omega, by omega⟩
  obtain ⟨q, f, e1, hq3, hcf, hf0, hf1⟩ := hq
  clear c0 c1 c2 hg2 hg3 hg4 hr2 hr3 h
  go_wp2_with fail
  refine (pick_any _ _ _ (by omega) (by omega) (by omega) _ hr4).mono ?_
  rintro e w5 ⟨v5, rfl, l5, u5, hr5, hg5⟩
  clear e1
  go_wp2_with fail
  refine (pick_any _ _ _ (by omega) (by omega) (by omega) _ hr5).mono ?_
  rintro e w6 ⟨v6, rfl, l6, u6, hr6, hg6⟩
  go_wp2_with fail
  refine (pick_any _ _ _ (by omega) (by omega) (by omega) _ hr6).mono ?_
  rintro e w7 ⟨v7, rfl, l7, u7, hr7, hg7⟩
  go_wp2_with fail
  refine (pick_any _ _ _ (by omega) (by omega) (by omega) _ hr7).mono ?_
  rintro e w8 ⟨v8, rfl, l8, u8, hr8, hg8⟩
  have g8 := grown_trans (grown_trans (grown_trans (grown_trans g4 hg5) hg6) hg7) hg8
  clear hcf g4 hg5 hg6 hg7 hg8 hr4 hr5 hr6 hr7
  by_cases h80 : v8 = 0
  · have hb80 : (v8 == 0) = true := by simpa using h80
    clear h80
    have hdn := DN_bd f (v5 + v6)
    have kdn := Lib.hid (spec_DropsNeeded f (v5 + v6))
    generalize DN f (v5 + v6) = D at *
    go_wp2_with fail
    refine (kdn.out _).mono ?_
    rintro e w9 ⟨rfl, hb9⟩
    have hr9 := hr8.below hb9
    have g9 := grown_then g8 hb9
    clear hr8 g8 kdn hb80
    go_wp2_with fail
    all_goals
      refine (pick_any _ _ _ (by omega) (by omega) (by omega) _ hr9).mono ?_
      rintro e w10 ⟨v10, rfl, l10, u10, hr10, hg10⟩
      go_wp2_with fail
      refine (pick_any _ _ _ (by omega) (by omega) (by omega) _ hr10).mono ?_
      rintro e w11 ⟨v11, rfl, l11, u11, hr11, hg11⟩
      go_wp2_with fail
      refine bodyPost_ret (by simp [results, Try.results46, go_sem]; rfl) rfl ?_
      exact ⟨_, _, _, _, rfl, ⟨by omega, by omega, by omega, by omega⟩, grown_trans (grown_trans g9 hg10) hg11⟩
  · have hb80 : (v8 == 0) = false := by simpa using h80
    clear h80
    go_wp2_with fail
    all_goals
      refine (pick_any _ _ _ (by omega) (by omega) (by omega) _ hr8).mono ?_
      rintro e w10 ⟨v10, rfl, l10, u10, hr10, hg10⟩
      go_wp2_with fail
      refine (pick_any _ _ _ (by omega) (by omega) (by omega) _ hr10).mono ?_
      rintro e w11 ⟨v11, rfl, l11, u11, hr11, hg11⟩
      go_wp2_with fail
      refine bodyPost_ret (by simp [results, Try.results46, go_sem]; rfl) rfl ?_
      exact ⟨_, _, _, _, rfl, ⟨by omega, by omega, by omega, by omega⟩, grown_trans (grown_trans g8 hg10) hg11⟩

set_option maxHeartbeats 1000000 in
theorem spec_DrawDropsPlayed (a : Option Addr) (len cap : Nat) (w : World) (h : Code8 w a len cap) :
    Calls Try.prog 34 #[.slice a len cap] w (DrewFour FourOk w) := by
  go_enter Try.func34, Try.ntmps34
  go_wp2_with fail
  refine (open_any a len cap _ h).mono ?_
  rintro e w1 ⟨rfl, hr1, hb1⟩
  go_wp2_with fail
  refine (spec_l20Dropped _ 0 (by omega) _ hr1).mono ?_
  rintro e w2 ⟨f, b, c, d, rfl, hok, hg⟩
  go_wp2_with fail
  refine bodyPost_ret (v := .tuple #[.int .i64 f, .int .i64 b, .int .i64 c, .int .i64 d]) (by simp [results, Try.results34, go_sem]) rfl ?_
  exact ⟨f, b, c, d, rfl, hok, below_pick hb1 hg (Nat.le_refl _)⟩

set_option maxHeartbeats 1000000 in
theorem spec_DrawFoundBy (a : Option Addr) (len cap : Nat) (w : World) (h : Code8 w a len cap) :
    Calls Try.prog 36 #[.slice a len cap] w (DrewFour FourOk w) := by
  go_enter Try.func36, Try.ntmps36
  go_wp2_with fail
  refine (open_any a len cap _ h).mono ?_
  rintro e w1 ⟨rfl, hr1, hb1⟩
  go_wp2_with fail
  refine (spec_l20Dropped _ 0 (by omega) _ hr1).mono ?_
  rintro e w2 ⟨f, b, c, d, rfl, hok, hg⟩
  go_wp2_with fail
  refine bodyPost_ret (v := .tuple #[.int .i64 f, .int .i64 b, .int .i64 c, .int .i64 d]) (by simp [results, Try.results36, go_sem]) rfl ?_
  exact ⟨f, b, c, d, rfl, hok, below_pick hb1 hg (Nat.le_refl _)⟩

set_option maxHeartbeats 1000000 in
theorem spec_DrawBrokenIn (a : Option Addr) (len cap : Nat) (w : World) (h : Code8 w a len cap) :
    Calls Try.prog 37 #[.slice a len cap] w (DrewFour FourOk w) := by
  go_enter Try.func37, Try.ntmps37
  go_wp2_with fail
  refine (open_any a len cap _ h).mono ?_
  rintro e w1 ⟨rfl, hr1, hb1⟩
  go_wp2_with fail
  refine (spec_l20Dropped _ 0 (by omega) _ hr1).mono ?_
  rintro e w2 ⟨f, b, c, d, rfl, hok, hg⟩
  go_wp2_with fail
  refine bodyPost_ret (v := .tuple #[.int .i64 f, .int .i64 b, .int .i64 c, .int .i64 d]) (by simp [results, Try.results37, go_sem]) rfl ?_
  exact ⟨f, b, c, d, rfl, hok, below_pick hb1 hg (Nat.le_refl _)⟩
end Go.Proofs.Ytpmbioeemkioaaa
