/- impl.answerTo. -/
import Derived.Test.YtkkjgcpkimjfkaaProg
import Derived.Test.YtkkjgcpkimjfkaaCodes3
import Derived.Test.YtkkjgcpkimjfkaaMem
import Derived.Deep.RegionWith
namespace Go.Proofs.Ytkkjgcpkimjfkaa
open Go.RowKit

theorem RowAt.fresh (w : World) (c : Array Value) (t : TypeId) (n : Nat) (f : Nat → Int) (h : ∀ j, j < n → c[j]? = some (.int .i64 (f j))) : RowAt (w.alloc (.cells c t)) w.heap.size n f := by
  intro j hj
  exact ⟨by rw [World.cell?_alloc_at c t _ _ rfl]; exact h j hj, World.frozen?_alloc_at c t _ _ rfl⟩
theorem RowAt.past {w : World} {B n : Nat} {f : Nat → Int} (h : RowAt w B n f) (hB : B < w.heap.size) (o : Obj) : RowAt (w.alloc o) B n f :=
  h.below ((Below.refl _ _).alloc (Nat.le_refl _) o) hB

theorem many_step {xs ys : List Int} {k a b X Y : Nat} (hx : ∀ c : Nat, cnt xs c (k + 1) = cnt xs c k + if (a : Int) = (c : Int) then 1 else 0) (hy : ∀ c : Nat, cnt ys c (k + 1) = cnt ys c k + if (b : Int) = (c : Int) then 1 else 0)
    (hX : X = cnt xs a k) (hY : Y = cnt ys b k) (ha : a < 5) (j : Nat) :
    (if j = 5 + b then (Y : Int) + 1 else if j = a then (X : Int) + 1 else if j < 5 then (cnt xs j k : Int) else (cnt ys (j - 5) k : Int)) = if j < 5 then (cnt xs j (k + 1) : Int) else (cnt ys (j - 5) (k + 1) : Int) := by
  subst hX
  subst hY
  by_cases h5 : j < 5
  · rw [if_neg (by omega), if_pos h5, if_pos h5, hx]
    by_cases e : j = a
    · subst e; rw [if_pos rfl, if_pos rfl]; omega
    · rw [if_neg e, if_neg (by omega)]; omega
  · rw [if_neg (show ¬ j = a by omega), if_neg h5, if_neg h5, hy]
    by_cases e : j = 5 + b
    · subst e
      rw [if_pos rfl, show 5 + b - 5 = b by omega, if_pos rfl]
      omega
    · rw [if_neg e, if_neg (by omega)]; omega

set_option maxHeartbeats 4000000 in
theorem answer_any (n C : Nat) (va vb : Value) (xs ys : List Int) (w : World) (ha : Rd w va xs) (hb : Rd w vb ys) (hn1 : 1 ≤ n) (hn3 : n ≤ 3) (hC : C ≤ 5) (h1 : xs.length = n) (h2 : ys.length = n)
    (b1 : ∀ j, j < n → 0 ≤ xs.getD j 0 ∧ xs.getD j 0 < (C : Int)) (b2 : ∀ j, j < n → 0 ≤ ys.getD j 0 ∧ ys.getD j 0 < (C : Int)) :
    Calls Try.prog 44 #[va, vb] w fun e w' => e = .returned (.agg #[.int .i64 (eqs xs ys n), .int .i64 ((com xs ys n 5 : Int) - eqs xs ys n)]) ∧ Below w.heap.size w w' := by
  obtain ⟨a, ca, rfl, _, ho⟩ := ha
  obtain ⟨g, off, rfl, hcell⟩ := ho (by intro e; rw [e] at h1; simp at h1; omega)
  obtain ⟨a', ca', rfl, _, ho'⟩ := hb
  obtain ⟨g', off', rfl, hcell'⟩ := ho' (by intro e; rw [e] at h2; simp at h2; omega)
  rw [h1] at hcell ⊢
  rw [h2] at hcell' ⊢
  have HX := Lib.hid hcell
  have HY := Lib.hid hcell'
  have B1 := Lib.hid b1
  have B2 := Lib.hid b2
  clear ho ho' hcell hcell' b1 b2 h1 h2
  have HA0 : Hid (RowAt (((w.alloc (.cells #[.int .i64 0, .int .i64 0] 59)).alloc (.cells #[.int .i64 0, .int .i64 0] 59)).alloc (.cells #[.int .i64 0, .int .i64 0, .int .i64 0, .int .i64 0, .int .i64 0, .int .i64 0, .int .i64 0, .int .i64 0, .int .i64 0, .int .i64 0] 81)) w.heap.size 2 (fun _ => 0)) := by
    have := ((RowAt.fresh w #[.int .i64 0, .int .i64 0] 59 2 (fun _ => 0) (fun j hj => by
      obtain rfl | rfl : j = 0 ∨ j = 1 := by omega
      all_goals rfl)).past (by simp) (.cells #[.int .i64 0, .int .i64 0] 59)).past (by simp; omega) (.cells #[.int .i64 0, .int .i64 0, .int .i64 0, .int .i64 0, .int .i64 0, .int .i64 0, .int .i64 0, .int .i64 0, .int .i64 0, .int .i64 0] 81)
    exact this
  have HA1 : Hid (RowAt (((w.alloc (.cells #[.int .i64 0, .int .i64 0] 59)).alloc (.cells #[.int .i64 0, .int .i64 0] 59)).alloc (.cells #[.int .i64 0, .int .i64 0, .int .i64 0, .int .i64 0, .int .i64 0, .int .i64 0, .int .i64 0, .int .i64 0, .int .i64 0, .int .i64 0] 81)) (w.heap.size + 1) 2 (fun _ => 0)) := by
    have := (RowAt.fresh (w.alloc (.cells #[.int .i64 0, .int .i64 0] 59)) #[.int .i64 0, .int .i64 0] 59 2 (fun _ => 0) (fun j hj => by
      obtain rfl | rfl : j = 0 ∨ j = 1 := by omega
      all_goals rfl)).past (by simp) (.cells #[.int .i64 0, .int .i64 0, .int .i64 0, .int .i64 0, .int .i64 0, .int .i64 0, .int .i64 0, .int .i64 0, .int .i64 0, .int .i64 0] 81)
    rw [World.size_alloc] at this
    exact this
  have HA2 : Hid (RowAt (((w.alloc (.cells #[.int .i64 0, .int .i64 0] 59)).alloc (.cells #[.int .i64 0, .int .i64 0] 59)).alloc (.cells #[.int .i64 0, .int .i64 0, .int .i64 0, .int .i64 0, .int .i64 0, .int .i64 0, .int .i64 0, .int .i64 0, .int .i64 0, .int .i64 0] 81)) (w.heap.size + 1 + 1) 10 (fun _ => 0)) := by
    have := RowAt.fresh ((w.alloc (.cells #[.int .i64 0, .int .i64 0] 59)).alloc (.cells #[.int .i64 0, .int .i64 0] 59)) #[.int .i64 0, .int .i64 0, .int .i64 0, .int .i64 0, .int .i64 0, .int .i64 0, .int .i64 0, .int .i64 0, .int .i64 0, .int .i64 0] 81 10 (fun _ => 0) (fun j hj => by
      obtain rfl | rfl | rfl | rfl | rfl | rfl | rfl | rfl | rfl | rfl : j = 0 ∨ j = 1 ∨ j = 2 ∨ j = 3 ∨ j = 4 ∨ j = 5 ∨ j = 6 ∨ j = 7 ∨ j = 8 ∨ j = 9 := by omega
      all_goals rfl)
    rw [World.size_alloc, World.size_alloc] at this
    exact this
  have HAB : Hid (Below w.heap.size w (((w.alloc (.cells #[.int .i64 0, .int .i64 0] 59)).alloc (.cells #[.int .i64 0, .int .i64 0] 59)).alloc (.cells #[.int .i64 0, .int .i64 0, .int .i64 0, .int .i64 0, .int .i64 0, .int .i64 0, .int .i64 0, .int .i64 0, .int .i64 0, .int .i64 0] 81))) :=
    (((Below.refl _ _).alloc (Nat.le_refl _) _).alloc (by simp) _).alloc (by simp; omega) _
  go_enter Try.func44, Try.ntmps44
  go_wp2_with fail
  generalize (((w.alloc (.cells #[.int .i64 0, .int .i64 0] 59)).alloc (.cells #[.int .i64 0, .int .i64 0] 59)).alloc (.cells #[.int .i64 0, .int .i64 0, .int .i64 0, .int .i64 0, .int .i64 0, .int .i64 0, .int .i64 0, .int .i64 0, .int .i64 0, .int .i64 0] 81)) = w3 at *
  obtain ⟨H, hH⟩ : ∃ H, H = w.heap.size := ⟨_, rfl⟩
  have hg : g < H := by rw [hH]; exact World.block_lt_of_cell? w _ (HX.out 0 (by omega))
  have hg' : g' < H := by rw [hH]; exact World.block_lt_of_cell? w _ (HY.out 0 (by omega))
  rw [← hH] at HA0 HA1 HA2 HAB ⊢
  generalize hH1 : H + 1 = H1 at *
  generalize hH2 : H1 + 1 = H2 at *
  have n1 : ¬ g = H1 := by omega
  have n2 : ¬ g = H2 := by omega
  have n3 : ¬ g' = H1 := by omega
  have n4 : ¬ g' = H2 := by omega
  have n5 : ¬ H1 = H2 := by omega
  have n6 : ¬ H2 = H1 := by omega
  have n7 : ¬ H1 = g := by omega
  have n8 : ¬ H2 = g := by omega
  have n9 : ¬ H1 = g' := by omega
  have n10 : ¬ H2 = g' := by omega
  have q1 : H ≤ H1 := by omega
  have q2 : H ≤ H2 := by omega
  have n11 : ¬ H = H1 := by omega
  have n12 : ¬ H = H2 := by omega
  have n13 : ¬ H1 = H := by omega
  have HH := Lib.hid hH
  clear hH
  go_loopw [12] (fun vk wr => ∃ k : Nat, k ≤ n ∧ vk = .int .i64 k ∧ RowAt wr H1 2 (fun j => if j = 0 then (eqs xs ys k : Int) else 0) ∧ RowAt wr H2 10 (fun j => if j < 5 then (cnt xs j k : Int) else (cnt ys (j - 5) k : Int)) ∧ RowAt wr H 2 (fun _ => 0) ∧ Below H w wr) (fun vk _ => n - (intOf vk).toNat)
  case atStart => exact ⟨0, by omega, rfl, HA1.out.congr (fun j _ => by simp [eqs]), HA2.out.congr (fun j _ => by simp [cnt]), HA0.out, HAB.out⟩
  case round =>
    obtain ⟨k, hk, rfl, r1, r2, r0, hbr⟩ := hrel
    by_cases hlt : k < n
    · have hcx := (hbr.cell (p := ⟨g, off + k, none⟩) hg).trans (HX.out k hlt)
      have hcy := (hbr.cell (p := ⟨g', off' + k, none⟩) hg').trans (HY.out k hlt)
      obtain ⟨x1, x2⟩ := B1.out k hlt
      obtain ⟨y1, y2⟩ := B2.out k hlt
      have hE := eqs_le xs ys k
      have HN : Hid (eqs xs ys (k + 1) = eqs xs ys k + if xs.getD k 0 = ys.getD k 0 then 1 else 0) := rfl
      have HNx : Hid (∀ c : Nat, cnt xs c (k + 1) = cnt xs c k + if xs.getD k 0 = (c : Int) then 1 else 0) := fun _ => rfl
      have HNy : Hid (∀ c : Nat, cnt ys c (k + 1) = cnt ys c k + if ys.getD k 0 = (c : Int) then 1 else 0) := fun _ => rfl
      generalize xs.getD k 0 = x at *
      generalize ys.getD k 0 = y at *
      obtain ⟨a, rfl⟩ := Int.eq_ofNat_of_zero_le x1
      obtain ⟨b, rfl⟩ := Int.eq_ofNat_of_zero_le y1
      have ha5 : a < 5 := by omega
      have hb5 : b < 5 := by omega
      have c0 : wr.cell? ⟨H1, 0, none⟩ = some (.int .i64 (eqs xs ys k : Int)) := (r1 0 (by omega)).1
      have f0 := (r1 0 (by omega)).2
      have ca0 : wr.cell? ⟨H2, a, none⟩ = some (.int .i64 (cnt xs a k : Int)) := by have := (r2 a (by omega)).1; simpa only [if_pos ha5] using this
      have fa0 := (r2 a (by omega)).2
      have cb0 : wr.cell? ⟨H2, 5 + b, none⟩ = some (.int .i64 (cnt ys b k : Int)) := by have := (r2 (5 + b) (by omega)).1; simpa only [show ¬ 5 + b < 5 by omega, if_false, show 5 + b - 5 = b by omega] using this
      have fb0 := (r2 (5 + b) (by omega)).2
      have hcA := cnt_le xs a k
      have hcB := cnt_le ys b k
      have HR1 := Lib.hid r1
      have HR2 := Lib.hid r2
      have HR0 := Lib.hid r0
      have HBR := Lib.hid hbr
      obtain ⟨E, hE0⟩ : ∃ E, E = eqs xs ys k := ⟨_, rfl⟩
      obtain ⟨X, hX0⟩ : ∃ X, X = cnt xs a k := ⟨_, rfl⟩
      obtain ⟨Y, hY0⟩ : ∃ Y, Y = cnt ys b k := ⟨_, rfl⟩
      rw [← hE0] at c0 hE
      rw [← hX0] at ca0 hcA
      rw [← hY0] at cb0 hcB
      have HE0 := Lib.hid hE0
      have HX0 := Lib.hid hX0
      have HY0 := Lib.hid hY0
      have hi0 : (0 : Int) ≤ (k : Int) := by omega
      have hi1 : (k : Int) < (n : Int) := by omega
      have ha0 : (0 : Int) ≤ (a : Int) := by omega
      have ha1 : (a : Int) < 5 := by omega
      have hb0 : (0 : Int) ≤ (b : Int) := by omega
      have hb1 : (b : Int) < 5 := by omega
      have m1 : ¬ a = 5 + b := by omega
      have m2 : ¬ 5 + b = a := by omega
      clear r1 r2 r0 hbr hE0 hX0 hY0 x1 x2 y1 y2
      by_cases hab : a = b
      · subst hab
        have hab2 : ((a : Int) == (a : Int)) = true := by simp
        go_wp2_with fail
        go_roundw
        case rel =>
          refine ⟨k + 1, by omega, by go_num, (((HR1.out.set 0 _).other n5 _ _).other n5 _ _).congr (fun j hj => ?_), (((HR2.out.other n6 _ _).set a _).set (5 + a) _).congr (fun j hj => many_step HNx.out HNy.out HX0.out HY0.out ha5 j), ((HR0.out.other n11 _ _).other n12 _ _).other n12 _ _, ((HBR.out.setCell q1 _).setCell q2 _).setCell q2 _⟩
          rw [HN.out, if_pos rfl, ← HE0.out]
          by_cases e : j = 0
          · rw [if_pos e, if_pos e, Int.natCast_add]; rfl
          · rw [if_neg e, if_neg e, if_neg e]
        case measure => simp [intOf]; omega
      · have hab2 : ((a : Int) == (b : Int)) = false := by rw [beq_eq_false_iff_ne]; omega
        have HAB2 := Lib.hid hab
        clear hab
        go_wp2_with fail
        go_roundw
        case rel =>
          refine ⟨k + 1, by omega, by go_num, ((HR1.out.other n5 _ _).other n5 _ _).congr (fun j hj => ?_), ((HR2.out.set a _).set (5 + b) _).congr (fun j hj => many_step HNx.out HNy.out HX0.out HY0.out ha5 j), (HR0.out.other n12 _ _).other n12 _ _, (HBR.out.setCell q2 _).setCell q2 _⟩
          by_cases e : j = 0
          · rw [if_pos e, if_pos e, HN.out, if_neg (by have := HAB2.out; omega), Nat.add_zero]
          · rw [if_neg e, if_neg e]
        case measure => simp [intOf]; omega
    · have hkn : k = n := by omega
      subst hkn
      have HE := Lib.hid (eqs_le xs ys k)
      have HM : Hid (∀ c, com xs ys k c ≤ k * c) := com_le xs ys k
      clear hlt hk
      go_wp2_with fail
      go_loopw [45] (fun vc wr => ∃ c : Nat, c ≤ 5 ∧ vc = .int .i64 c ∧ RowAt wr H1 2 (fun j => if j = 0 then (eqs xs ys k : Int) else (com xs ys k c : Int)) ∧ RowAt wr H2 10 (fun j => if j < 5 then (cnt xs j k : Int) else (cnt ys (j - 5) k : Int)) ∧ RowAt wr H 2 (fun _ => 0) ∧ Below H w wr) (fun vc _ => 5 - (intOf vc).toNat)
      case atStart => exact ⟨0, by omega, rfl, r1.congr (fun j _ => by simp [com]), r2, r0, hbr⟩
      case round =>
        clear r1 r2 r0 hbr
        obtain ⟨c, hc, rfl, r1, r2, r0, hbr⟩ := hrel
        have c0 : wr.cell? ⟨H1, 0, none⟩ = some (.int .i64 (eqs xs ys k : Int)) := (r1 0 (by omega)).1
        have f0 := (r1 0 (by omega)).2
        have c1 : wr.cell? ⟨H1, 1, none⟩ = some (.int .i64 (com xs ys k c : Int)) := (r1 1 (by omega)).1
        have f1 := (r1 1 (by omega)).2
        by_cases hc5 : c < 5
        · have ca0 : wr.cell? ⟨H2, c, none⟩ = some (.int .i64 (cnt xs c k : Int)) := by have := (r2 c (by omega)).1; simpa only [if_pos hc5] using this
          have cb0 : wr.cell? ⟨H2, 5 + c, none⟩ = some (.int .i64 (cnt ys c k : Int)) := by have := (r2 (5 + c) (by omega)).1; simpa only [show ¬ 5 + c < 5 by omega, if_false, show 5 + c - 5 = c by omega] using this
          have hM : com xs ys k c ≤ k * c := HM.out c
          have hM2 : k * c ≤ 3 * 5 := Nat.mul_le_mul (by omega) (by omega)
          have hx := cnt_le xs c k
          have hy := cnt_le ys c k
          have HN : com xs ys k (c + 1) = com xs ys k c + min (cnt xs c k) (cnt ys c k) := rfl
          have HR1 := Lib.hid r1
          have HR2 := Lib.hid r2
          have HR0 := Lib.hid r0
          have HBR := Lib.hid hbr
          obtain ⟨M, hM0⟩ : ∃ M, M = com xs ys k c := ⟨_, rfl⟩
          obtain ⟨X, hX0⟩ : ∃ X, X = cnt xs c k := ⟨_, rfl⟩
          obtain ⟨Y, hY0⟩ : ∃ Y, Y = cnt ys c k := ⟨_, rfl⟩
          rw [← hM0] at c1 hM HN
          rw [← hX0] at ca0 hx HN
          rw [← hY0] at cb0 hy HN
          have hMb : M ≤ 15 := by omega
          have HC : Hid (∀ (wr2 : World) (S : Int), RowAt wr2 H1 2 (fun j => if j = 0 then (eqs xs ys k : Int) else (com xs ys k c : Int)) → S = (min X Y : Nat) → RowAt (wr2.setCell ⟨H1, 1, none⟩ (.int .i64 ((M : Int) + S))) H1 2 (fun j => if j = 0 then (eqs xs ys k : Int) else (com xs ys k (c + 1) : Int))) := by
            intro wr2 S hw2 hS
            refine (hw2.set 1 _).congr (fun j hj => ?_)
            rw [HN, hS]
            obtain rfl | rfl : j = 0 ∨ j = 1 := by omega
            · simp
            · simp
          have hi0 : (0 : Int) ≤ (c : Int) := by omega
          have hi1 : (c : Int) < 5 := by omega
          clear r1 r2 r0 hbr hM hM2 hM0 hX0 hY0 c0
          clear HN
          go_wp2_with fail
          go_region_with (fail)
          all_goals
            go_wp2_with fail
            go_roundw
            case rel => exact ⟨c + 1, by omega, by go_num, (HC.out _ _ HR1.out (by omega)).drew, (HR2.out.other n6 _ _).drew, (HR0.out.other n11 _ _).drew, (HBR.out.setCell q1 _).drew⟩
            case measure => simp [intOf]; omega
        · have hc5 : c = 5 := by omega
          subst hc5
          have hM : com xs ys k 5 ≤ k * 5 := HM.out 5
          have hE : eqs xs ys k ≤ k := HE.out
          have d0 := (r0 0 (by omega)).1
          have d1 := (r0 1 (by omega)).1
          have e0 := (r0 0 (by omega)).2
          have e1 := (r0 1 (by omega)).2
          obtain ⟨M, hM0⟩ : ∃ M, M = com xs ys k 5 := ⟨_, rfl⟩
          obtain ⟨E, hE0⟩ : ∃ E, E = eqs xs ys k := ⟨_, rfl⟩
          rw [← hM0] at hM c1
          rw [← hE0] at hE c0
          have HM0 := Lib.hid hM0
          have HE0 := Lib.hid hE0
          clear hM0 hE0
          have HBR := Lib.hid hbr
          clear r1 r2 r0 hbr
          go_wp2_with fail
          (try simp only [Exit.inBlock, Exit.then])
          refine bodyPost_ret (v := .agg #[.int .i64 (E : Nat), .int .i64 ((M : Int) - E)]) (by simp [results, Try.results44, go_sem, d0, d1]) rfl ⟨by rw [HM0.out, HE0.out], ?_⟩
          rw [← HH.out]
          exact ((HBR.out.setCell q1 _).setCell (Nat.le_refl _) _).setCell (Nat.le_refl _) _
end Go.Proofs.Ytkkjgcpkimjfkaa
