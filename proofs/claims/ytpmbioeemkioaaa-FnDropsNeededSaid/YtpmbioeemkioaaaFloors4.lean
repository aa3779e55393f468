/- The drops played: the plain play, spec.DropsPlayed, impl.dropped. -/
import Derived.Test.YtpmbioeemkioaaaProg
import Derived.Test.YtpmbioeemkioaaaFloors3
import Derived.Test.YtpmbioeemkioaaaSlices
namespace Go.Proofs.Ytpmbioeemkioaaa
open Go.RowKit

structure Pl where
  list : List Int
  lo : Int
  hi : Int
  c : Nat
  d : Nat

def play (br : Int) : Nat → Int → Int → Nat → Pl
  | 0, lo, hi, c => ⟨[], lo, hi, c, 0⟩
  | d + 1, lo, hi, c =>
    if c = 0 ∨ hi - lo ≤ 1 then ⟨[], lo, hi, c, d + 1⟩ else
    let f := min (hi - 1) (lo + Ap (c - 1) d)
    let r := if br ≤ f then play br d lo f (c - 1) else play br d f hi c
    ⟨f :: r.list, r.lo, r.hi, r.c, r.d⟩

def app (l : List Int) (p : Pl) : Pl := ⟨l ++ p.list, p.lo, p.hi, p.c, p.d⟩

theorem app_nil (p : Pl) : app [] p = p := rfl
theorem play_stop (br lo hi : Int) (c d : Nat) (h : c = 0 ∨ d = 0 ∨ hi - lo ≤ 1) : play br d lo hi c = ⟨[], lo, hi, c, d⟩ := by
  cases d with
  | zero => rfl
  | succ d => rw [play, if_pos (by omega)]
theorem app_stop (l : List Int) (br lo hi : Int) (c d : Nat) (h : c = 0 ∨ d = 0 ∨ hi - lo ≤ 1) : app l (play br d lo hi c) = ⟨l, lo, hi, c, d⟩ := by
  rw [play_stop br lo hi c d h]; simp [app]
theorem app_broke (l : List Int) (br lo hi f : Int) (c d : Nat) (h : ¬ hi - lo ≤ 1) (hf : f = min (hi - 1) (lo + Ap c d)) (hb : br ≤ f) :
    app l (play br (d + 1) lo hi (c + 1)) = app (l ++ [f]) (play br d lo f c) := by
  rw [play, if_neg (by omega)]
  simp only [Nat.add_sub_cancel, ← hf, if_pos hb, app, List.append_assoc, List.singleton_append]
theorem app_held (l : List Int) (br lo hi f : Int) (c d : Nat) (h : ¬ hi - lo ≤ 1) (hf : f = min (hi - 1) (lo + Ap c d)) (hb : ¬ br ≤ f) :
    app l (play br (d + 1) lo hi (c + 1)) = app (l ++ [f]) (play br d f hi (c + 1)) := by
  rw [play, if_neg (by omega)]
  simp only [Nat.add_sub_cancel, ← hf, if_neg hb, app, List.append_assoc, List.singleton_append]

theorem Ap_pos (c d : Nat) : 1 ≤ Ap c d := by
  induction d generalizing c with
  | zero => rw [Ap_zero]; exact Nat.le_refl _
  | succ d ih => cases c with
    | zero => simp [Ap]
    | succ c => have := ih c; rw [Ap]; omega

/-- The arguments of a game are as told. -/
def DPok (f b c d : Int) : Prop := (0 ≤ f ∧ f ≤ 9999) ∧ (1 ≤ b ∧ b ≤ f + 1) ∧ (0 ≤ c ∧ c ≤ 8) ∧ (0 ≤ d ∧ d ≤ 14)
instance (f b c d : Int) : Decidable (DPok f b c d) := by unfold DPok; infer_instance
theorem DP_cases (f b c d : Int) : (f < 0 ∨ 9999 < f) ∨ ((0 ≤ f ∧ f ≤ 9999) ∧ (b < 1 ∨ f + 1 < b)) ∨ ((0 ≤ f ∧ f ≤ 9999) ∧ (1 ≤ b ∧ b ≤ f + 1) ∧ (c < 0 ∨ 8 < c)) ∨
    ((0 ≤ f ∧ f ≤ 9999) ∧ (1 ≤ b ∧ b ≤ f + 1) ∧ (0 ≤ c ∧ c ≤ 8) ∧ (d < 0 ∨ 14 < d)) ∨ ((0 ≤ f ∧ f ≤ 9999) ∧ (1 ≤ b ∧ b ≤ f + 1) ∧ (0 ≤ c ∧ c ≤ 8) ∧ (0 ≤ d ∧ d ≤ 14)) := by omega
/-- The floors of the game. -/
def DP (f b c d : Int) : List Int := if DPok f b c d then (play b d.toNat 0 (f + 1) c.toNat).list else []
theorem DP_out (f b c d : Int) (h : ¬ DPok f b c d) : DP f b c d = [] := by unfold DP; rw [if_neg h]
theorem DP_nat (f b : Int) (c d : Nat) (h : DPok f b c d) : DP f b c d = (play b d 0 (f + 1) c).list := by unfold DP; rw [if_pos h]; simp

theorem Ytpmbioeemkioaaainfo3' : (Try.prog.info? 3).map (fun i => (i.zero, i.size, i.bytes)) = some (some (.int .i64 0), 1, 8) := by kernel_rfl

set_option maxHeartbeats 1000000 in
theorem spec_DropsPlayed (f b c d : Int) (w : World) : Calls Try.prog 25 #[.int .i64 f, .int .i64 b, .int .i64 c, .int .i64 d] w
    fun e w' => ∃ v, e = .returned v ∧ Ow w' w.heap.size v (DP f b c d) ∧ Below w.heap.size w w' := by
  rcases DP_cases f b c d with h | ⟨h1, h⟩ | ⟨h1, h2, h⟩ | ⟨h1, h2, h3, h⟩ | ⟨h1, h2, h3, h4⟩
  iterate 4
    · have hout : DP f b c d = [] := DP_out _ _ _ _ (by unfold DPok; omega)
      rw [hout]
      clear hout
      go_enter Try.func25, Try.ntmps25
      go_wp2_with (first
        | (go_at_call 38; refine (l1In_yes _ _ _ _ (by omega) (by omega)).mono ?_; rintro e w' ⟨rfl, rfl⟩)
        | (go_at_call 38; refine (l1In_no _ _ _ _ (by omega)).mono ?_; rintro e w' ⟨rfl, rfl⟩))
      go_ret
      exact ⟨_, rfl, Ow.nil _ _ _ _, (Below.refl _ _).alloc (Nat.le_refl _) _⟩
  · obtain ⟨c, rfl⟩ := Int.eq_ofNat_of_zero_le h3.1
    obtain ⟨d, rfl⟩ := Int.eq_ofNat_of_zero_le h4.1
    rw [DP_nat f b c d ⟨h1, h2, h3, h4⟩]
    generalize hP : play b d 0 (f + 1) c = P
    have HP : Hid (app [] (play b d 0 (f + 1) c) = P) := hP
    clear hP
    obtain ⟨B, hB⟩ : ∃ B, B = w.heap.size := ⟨_, rfl⟩
    have HB := Lib.hid hB
    go_enter Try.func25, Try.ntmps25
    go_wp2_with (first
      | (go_at_call 38; refine (l1In_yes _ _ _ _ (by omega) (by omega)).mono ?_; rintro e w' ⟨rfl, rfl⟩))
    rw [← hB]
    clear hB
    go_loopw [2, 3, 9, 10, 11] (fun vc vd vo vl vh wr => ∃ (c d : Nat) (lo hi : Int) (L : List Int), c ≤ 8 ∧ d + L.length ≤ 14 ∧ 0 ≤ lo ∧ lo < hi ∧ hi ≤ f + 1 ∧
        vc = .int .i64 c ∧ vd = .int .i64 d ∧ vl = .int .i64 lo ∧ vh = .int .i64 hi ∧ Hid (app L (play b d lo hi c) = P) ∧ wr.ownsRow B 3 1 vo L.length (L.map (Value.int .i64)) ∧ Below B w wr)
      (fun _ vd _ _ _ _ => (intOf vd).toNat)
    case atStart => exact ⟨c, d, 0, f + 1, [], by omega, by simp; omega, by omega, by omega, by omega, rfl, rfl, rfl, rfl, HP, by rw [HB.out]; exact World.ownsRow_made w #[] 0 (Nat.le_refl _) (by simp [maxLen]) (by simp), by rw [HB.out]; exact (Below.refl _ _).alloc (Nat.le_refl _) _⟩
    case round =>
      clear HP h3 h4
      obtain ⟨c, d, lo, hi', L, hc, hd, hl0, hlh, hhf, rfl, rfl, rfl, rfl, HP, hown, hbel⟩ := hrel
      by_cases hstop : c = 0 ∨ d = 0 ∨ hi' - lo ≤ 1
      · have hP := HP.out
        rw [app_stop L b lo hi' c d hstop] at hP
        have HQ := Lib.hid hP
        clear hP HP
        have fin : Ow wr w.heap.size u9 P.list ∧ Below w.heap.size w wr := by
          rw [← HQ.out, ← HB.out]; exact ⟨Ow.of_row hown (by simp only [maxLen]; omega), hbel⟩
        by_cases e1 : hi' - lo ≤ 1
        · have hd1 : decide (1 < hi' - lo) = false := by simp; omega
          clear hstop
          go_wp2_with fail
          go_ret
          exact ⟨_, rfl, fin⟩
        · have hd1 : decide (1 < hi' - lo) = true := by simp; omega
          by_cases e2 : c = 0
          · subst e2
            clear hstop
            go_wp2_with fail
            go_ret
            exact ⟨_, rfl, fin⟩
          · have e3 : d = 0 := by omega
            subst e3
            have e2' : 0 < c := by omega
            clear hstop
            go_wp2_with fail
            go_ret
            exact ⟨_, rfl, fin⟩
      · obtain ⟨c, rfl⟩ : ∃ k, c = k + 1 := ⟨c - 1, by omega⟩
        obtain ⟨d, rfl⟩ : ∃ k, d = k + 1 := ⟨d - 1, by omega⟩
        have hd1 : decide (1 < hi' - lo) = true := by simp; omega
        have hgap : ¬ hi' - lo ≤ 1 := by omega
        have hND := ND_nat lo hi' c d (by omega) (by omega) (by omega) (by omega) (by omega) (by omega) (by omega)
        obtain ⟨F, hF⟩ : ∃ F, F = min (hi' - 1) (lo + (Ap c d : Int)) := ⟨_, rfl⟩
        rw [← hF] at hND
        have hA1 := Ap_pos c d
        have hF1 : lo < F := by omega
        have hF2 : F < hi' := by omega
        have hcall : Hid (∀ w, Calls Try.prog 17 #[.int .i64 lo, .int .i64 hi', .int .i64 (c + 1), .int .i64 (d + 1)] w fun e w' => e = .returned (.int .i64 F) ∧ Below w.heap.size w w') := by
          intro w; rw [← hND]; exact spec_NextDrop _ _ _ _ _
        clear hND hstop
        by_cases hbr : b ≤ F
        · have HP2 : Hid (app (L ++ [F]) (play b d lo F c) = P) := by rw [← app_broke L b lo hi' F c d hgap hF hbr]; exact HP.out
          clear HP hF hA1
          go_wp2_with (first
            | (go_at_call 17; (with_reducible refine (hcall.out _).mono ?_); rintro e w1 ⟨rfl, hb1⟩; have hown1 := owns_below hown hb1; have hsz : B ≤ w1.heap.size := by (have := hbel.size; have := hb1.size; have := HB.out; omega))
            | (at_builtin; refine wpList_append_int _ rfl _ _ rfl B _ _ F hown1 rfl rfl (by omega) hsz ?_; intro v2 w2 hown2 hb2; clear hown hown1))
          go_roundw
          case rel => exact ⟨c, d, lo, F, L ++ [F], by omega, by simp; omega, by omega, by omega, by omega, by go_num, by go_num, rfl, rfl, HP2, hown2, hbel.trans ((hb1.mono (by rw [HB.out]; exact hbel.size)).trans hb2)⟩
          case measure => simp [intOf]
        · have HP2 : Hid (app (L ++ [F]) (play b d F hi' (c + 1)) = P) := by rw [← app_held L b lo hi' F c d hgap hF hbr]; exact HP.out
          clear HP hF hA1
          go_wp2_with (first
            | (go_at_call 17; (with_reducible refine (hcall.out _).mono ?_); rintro e w1 ⟨rfl, hb1⟩; have hown1 := owns_below hown hb1; have hsz : B ≤ w1.heap.size := by (have := hbel.size; have := hb1.size; have := HB.out; omega))
            | (at_builtin; refine wpList_append_int _ rfl _ _ rfl B _ _ F hown1 rfl rfl (by omega) hsz ?_; intro v2 w2 hown2 hb2; clear hown hown1))
          go_roundw
          case rel => exact ⟨c + 1, d, F, hi', L ++ [F], by omega, by simp; omega, by omega, by omega, by omega, by go_num, by go_num, rfl, rfl, HP2, hown2, hbel.trans ((hb1.mono (by rw [HB.out]; exact hbel.size)).trans hb2)⟩
          case measure => simp [intOf]

theorem DPok_of {f b c d : Int} (h1 : 0 ≤ f ∧ f ≤ 9999) (h2 : 1 ≤ b ∧ b ≤ f + 1) (h3 : 0 ≤ c ∧ c ≤ 8) (h4 : 0 ≤ d ∧ d ≤ 14) : DPok f b c d := ⟨h1, h2, h3, h4⟩

/-- The four fields of a search. -/
def sf (lo hi c d : Int) : Nat → Int := fun j => if j = 0 then lo else if j = 1 then hi else if j = 2 then c else d
theorem sf_cells {w : World} {S : Nat} {lo hi c d : Int} (h : RowAt w S 4 (sf lo hi c d)) :
    w.cell? ⟨S, 0, none⟩ = some (.int .i64 lo) ∧ w.cell? ⟨S, 1, none⟩ = some (.int .i64 hi) ∧ w.cell? ⟨S, 2, none⟩ = some (.int .i64 c) ∧ w.cell? ⟨S, 3, none⟩ = some (.int .i64 d) ∧
    w.frozen? ⟨S, 0, none⟩ = false ∧ w.frozen? ⟨S, 1, none⟩ = false ∧ w.frozen? ⟨S, 2, none⟩ = false ∧ w.frozen? ⟨S, 3, none⟩ = false :=
  ⟨h.cell 0 (by omega), h.cell 1 (by omega), h.cell 2 (by omega), h.cell 3 (by omega), h.free 0 (by omega), h.free 1 (by omega), h.free 2 (by omega), h.free 3 (by omega)⟩
theorem sf_ext {f g : Nat → Int} (h0 : f 0 = g 0) (h1 : f 1 = g 1) (h2 : f 2 = g 2) (h3 : f 3 = g 3) : ∀ j, j < 4 → f j = g j := by
  intro j hj
  have : j = 0 ∨ j = 1 ∨ j = 2 ∨ j = 3 := by omega
  rcases this with rfl | rfl | rfl | rfl <;> assumption
def dropsLeft (w : World) (S : Nat) : Nat := match w.cell? ⟨S, 3, none⟩ with | some v => (intOf v).toNat | none => 0
theorem dropsLeft_eq {w : World} {S : Nat} {lo hi c d : Int} (h : RowAt w S 4 (sf lo hi c d)) : dropsLeft w S = d.toNat := by
  unfold dropsLeft; rw [(sf_cells h).2.2.2.1]; rfl

set_option maxHeartbeats 4000000 in
theorem dropped_yes (f b : Int) (c d : Nat) (h1 : 0 ≤ f ∧ f ≤ 9999) (h2 : 1 ≤ b ∧ b ≤ f + 1) (h3 : c ≤ 8) (h4 : d ≤ 14) (P : Pl) (HP : Hid (app [] (play b d 0 (f + 1) c) = P)) (w : World) :
    Calls Try.prog 42 #[.int .i64 f, .int .i64 b, .int .i64 c, .int .i64 d] w
    fun e w' => ∃ v, e = .returned (.tuple #[v, .agg #[.int .i64 P.lo, .int .i64 P.hi, .int .i64 P.c, .int .i64 P.d], .bool true]) ∧ Ow w' w.heap.size v P.list ∧ Below w.heap.size w w' := by
  obtain ⟨B, hB⟩ : ∃ B, B = w.heap.size := ⟨_, rfl⟩
  have HB := Lib.hid hB
  go_enter Try.func42, Try.ntmps42
  go_wp2_with (first
    | (go_at_call 39; refine (in_yes _ _ _ _ (by omega) (by omega)).mono ?_; rintro e w' ⟨rfl, rfl⟩))
  clear hB
  go_loopw [12] (fun vo wr => ∃ (c d : Nat) (lo hi : Int) (L : List Int), c ≤ 8 ∧ d + L.length ≤ 14 ∧ 0 ≤ lo ∧ lo < hi ∧ hi ≤ f + 1 ∧
      RowAt wr (w.heap.size + 1) 4 (sf lo hi c d) ∧ RowAt wr w.heap.size 4 (sf 0 0 0 0) ∧ Hid (app L (play b d lo hi c) = P) ∧ wr.ownsRow (w.heap.size + 2) 3 1 vo L.length (L.map (Value.int .i64)) ∧ Below w.heap.size w wr ∧
      w.heap.size + 2 ≤ wr.heap.size)
    (fun _ wr => dropsLeft wr (w.heap.size + 1))
  case atStart =>
    refine ⟨c, d, 0, f + 1, [], by omega, by simp; omega, by omega, by omega, by omega, ?_, ?_, HP, World.ownsRow_nil _ _ _ _, ((Below.refl _ _).alloc (Nat.le_refl _) _).alloc (by simp) _, by simp⟩
    · intro j hj
      have : j = 0 ∨ j = 1 ∨ j = 2 ∨ j = 3 := by omega
      rcases this with rfl | rfl | rfl | rfl <;> simp [sf]
    · intro j hj
      have : j = 0 ∨ j = 1 ∨ j = 2 ∨ j = 3 := by omega
      rcases this with rfl | rfl | rfl | rfl <;> simp [sf]
  case round =>
    clear HP h3 h4
    obtain ⟨c, d, lo, hi', L, hc, hd, hl0, hlh, hhf, hrs, hrz, HP, hown, hbel, hsz⟩ := hrel
    by_cases hstop : c = 0 ∨ d = 0 ∨ hi' - lo ≤ 1
    · obtain ⟨c0, c1, c2, c3, e0, e1, e2, e3⟩ := sf_cells hrs
      obtain ⟨z0, z1, z2, z3, y0, y1, y2, y3⟩ := sf_cells hrz
      have hP := HP.out
      rw [app_stop L b lo hi' c d hstop] at hP
      clear HP
      subst hP
      by_cases k1 : c = 0
      · subst k1
        clear hstop
        go_wp2_with fail
        go_region
        go_wp2_with fail
        refine bodyPost_ret (v := .tuple #[u12, .agg #[.int .i64 lo, .int .i64 hi', .int .i64 0, .int .i64 d], .bool true]) (by simp [results, Try.results42, go_sem, z0, z1, z2, z3]) rfl ⟨u12, rfl, ?_, ?_⟩
        · refine (Ow.of_row (ownsRow_setCell_below (ownsRow_setCell_below (ownsRow_setCell_below (ownsRow_setCell_below hown (by simp) _) (by simp) _) (by simp) _) (by simp) _) (by simp only [maxLen]; omega)).mono (by omega)
        · exact ((((hbel.setCell (by simp) _).setCell (by simp) _).setCell (by simp) _).setCell (by simp) _).drew
      · have k1' : 0 < c := by omega
        by_cases k2 : d = 0
        · subst k2
          clear hstop
          go_wp2_with fail
          go_region
          go_wp2_with fail
          refine bodyPost_ret (v := .tuple #[u12, .agg #[.int .i64 lo, .int .i64 hi', .int .i64 c, .int .i64 0], .bool true]) (by simp [results, Try.results42, go_sem, z0, z1, z2, z3]) rfl ⟨u12, rfl, ?_, ?_⟩
          · refine (Ow.of_row (ownsRow_setCell_below (ownsRow_setCell_below (ownsRow_setCell_below (ownsRow_setCell_below hown (by simp) _) (by simp) _) (by simp) _) (by simp) _) (by simp only [maxLen]; omega)).mono (by omega)
          · exact ((((hbel.setCell (by simp) _).setCell (by simp) _).setCell (by simp) _).setCell (by simp) _).drew
        · have k2' : 0 < d := by omega
          have k3 : decide (1 < hi' - lo) = false := by simp; omega
          clear hstop
          go_wp2_with fail
          go_region
          go_wp2_with fail
          refine bodyPost_ret (v := .tuple #[u12, .agg #[.int .i64 lo, .int .i64 hi', .int .i64 c, .int .i64 d], .bool true]) (by simp [results, Try.results42, go_sem, z0, z1, z2, z3]) rfl ⟨u12, rfl, ?_, ?_⟩
          · refine (Ow.of_row (ownsRow_setCell_below (ownsRow_setCell_below (ownsRow_setCell_below (ownsRow_setCell_below hown (by simp) _) (by simp) _) (by simp) _) (by simp) _) (by simp only [maxLen]; omega)).mono (by omega)
          · exact ((((hbel.setCell (by simp) _).setCell (by simp) _).setCell (by simp) _).setCell (by simp) _).drew
    · obtain ⟨c, rfl⟩ : ∃ k, c = k + 1 := ⟨c - 1, by omega⟩
      obtain ⟨d, rfl⟩ : ∃ k, d = k + 1 := ⟨d - 1, by omega⟩
      have hrs' : RowAt wr (w.heap.size + 1) 4 (sf lo hi' (c + 1) (d + 1)) := hrs
      have hdl := dropsLeft_eq hrs
      have HDL := Lib.hid hdl
      clear hdl hrs
      obtain ⟨c0, c1, c2, c3, _⟩ := sf_cells hrs'
      have hgap : ¬ hi' - lo ≤ 1 := by omega
      obtain ⟨F, hF⟩ : ∃ F, F = min (hi' - 1) (lo + (Ap c d : Int)) := ⟨_, rfl⟩
      have hA1 := Ap_pos c d
      have hF1 : lo < F := by omega
      have hF2 : F < hi' := by omega
      have hcall : Hid (∀ w, Calls Try.prog 41 #[.agg #[.int .i64 lo, .int .i64 hi', .int .i64 (c + 1), .int .i64 (d + 1)]] w fun e w' => e = .returned (.int .i64 F) ∧ Below w.heap.size w w') := by
        intro w; rw [hF]; exact next_any _ _ _ _ (by omega) (by omega) (by omega) (by omega) (by omega) (by omega) _
      clear hstop
      by_cases hbr : b ≤ F
      · have HP2 : Hid (app (L ++ [F]) (play b d lo F c) = P) := by rw [← app_broke L b lo hi' F c d hgap hF hbr]; exact HP.out
        clear HP hF hA1
        go_wp2_with (first
          | (go_at_call 41; (with_reducible refine (hcall.out _).mono ?_); rintro e w1 ⟨rfl, hb1⟩; have hown1 := owns_below hown hb1; have hsz1 : w.heap.size + 2 ≤ w1.heap.size := by (have := hb1.size; omega))
          | (at_builtin; refine wpList_append_int _ rfl _ _ rfl (w.heap.size + 2) _ _ F hown1 rfl rfl (by omega) hsz1 ?_; intro v2 w2 hown2 hb2; clear hown hown1; have hrs2 := (hrs'.below hb1 (by omega)).below hb2 (by omega); have hrz2 := (hrz.below hb1 (by omega)).below hb2 (by omega); clear hrs' hrz; obtain ⟨d0, d1, d2, d3, f0, f1, f2, f3⟩ := sf_cells hrs2))
        go_roundw
        case rel =>
          refine ⟨c, d, lo, F, L ++ [F], by omega, by simp; omega, by omega, by omega, by omega, (((hrs2.set 3 _).set 1 _).set 2 _).congr (sf_ext ?_ ?_ ?_ ?_), ((hrz2.other (by omega) _ _).other (by omega) _ _).other (by omega) _ _, HP2,
            ownsRow_setCell_below (ownsRow_setCell_below (ownsRow_setCell_below hown2 (by simp) _) (by simp) _) (by simp) _,
            (((hbel.trans ((hb1.mono (by omega)).trans (hb2.mono (by omega)))).setCell (by simp) _).setCell (by simp) _).setCell (by simp) _, ?_⟩
          · rfl
          · rfl
          · rfl
          · rfl
          · have := hb2.size; simp only [World.size_setCell]; omega
        case measure =>
          rw [HDL.out, dropsLeft_eq (lo := lo) (hi := F) (c := c) (d := d) ((((hrs2.set 3 (d : Int)).set 1 F).set 2 (c : Int)).congr (sf_ext rfl rfl rfl rfl))]
          omega
      · have HP2 : Hid (app (L ++ [F]) (play b d F hi' (c + 1)) = P) := by rw [← app_held L b lo hi' F c d hgap hF hbr]; exact HP.out
        clear HP hF hA1
        go_wp2_with (first
          | (go_at_call 41; (with_reducible refine (hcall.out _).mono ?_); rintro e w1 ⟨rfl, hb1⟩; have hown1 := owns_below hown hb1; have hsz1 : w.heap.size + 2 ≤ w1.heap.size := by (have := hb1.size; omega))
          | (at_builtin; refine wpList_append_int _ rfl _ _ rfl (w.heap.size + 2) _ _ F hown1 rfl rfl (by omega) hsz1 ?_; intro v2 w2 hown2 hb2; clear hown hown1; have hrs2 := (hrs'.below hb1 (by omega)).below hb2 (by omega); have hrz2 := (hrz.below hb1 (by omega)).below hb2 (by omega); clear hrs' hrz; obtain ⟨d0, d1, d2, d3, f0, f1, f2, f3⟩ := sf_cells hrs2))
        go_roundw
        case rel =>
          refine ⟨c + 1, d, F, hi', L ++ [F], by omega, by simp; omega, by omega, by omega, by omega, ((hrs2.set 3 _).set 0 _).congr (sf_ext ?_ ?_ ?_ ?_), (hrz2.other (by omega) _ _).other (by omega) _ _, HP2,
            ownsRow_setCell_below (ownsRow_setCell_below hown2 (by simp) _) (by simp) _,
            ((hbel.trans ((hb1.mono (by omega)).trans (hb2.mono (by omega)))).setCell (by simp) _).setCell (by simp) _, ?_⟩
          · rfl
          · rfl
          · rfl
          · rfl
          · have := hb2.size; simp only [World.size_setCell]; omega
        case measure =>
          rw [HDL.out, dropsLeft_eq (lo := F) (hi := hi') (c := c + 1) (d := d) (((hrs2.set 3 (d : Int)).set 0 F).congr (sf_ext rfl rfl rfl rfl))]
          omega
end Go.Proofs.Ytpmbioeemkioaaa
