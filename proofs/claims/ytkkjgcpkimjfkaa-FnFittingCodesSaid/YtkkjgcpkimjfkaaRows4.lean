/- impl.rows: the iterator over all rows; its recursive filling, in a fence. -/
import Derived.RangeFuncNested
import Derived.RangeFuncBound
import Derived.RangeFuncCalls
import Derived.RangeFuncLeaves
import Derived.Shelf.Abstract
import Derived.Shelf.RegionOpen
import Derived.WalkKit
import Derived.OwnWalkIn
import Derived.TacticsInMore
import Derived.LoopNIn
import Derived.LoopIn
import Derived.Test.YtkkjgcpkimjfkaaProg
import Derived.Test.YtkkjgcpkimjfkaaRows3
namespace Go.Proofs.Ytkkjgcpkimjfkaa
open Go.RowKit Go.Shelf

theorem impl_rows (p c : Int) (w : World) : Calls Try.prog 66 #[.int .i64 p, .int .i64 c] w fun e w' =>
    e = .returned (.func (.func 74) #[] #[.pointer (some ⟨w.heap.size, 0, none⟩), .pointer (some ⟨w.heap.size + 1, 0, none⟩)]) ∧ w' = (w.alloc (.cells #[.int .i64 p] 3)).alloc (.cells #[.int .i64 c] 3) := by
  go_enter Try.func66, Try.ntmps66
  go_wp2_with fail
  go_ret
  exact ⟨rfl, rfl⟩

/-- the iterator's variables: how many, less than what, the round's function, the row, the filling -/
structure Fm (p c l Bm Bl By R Br Bf : Nat) (W : World) : Prop where
  m : W.cell? ⟨Bm, 0, none⟩ = some (.int .i64 p)
  less : W.cell? ⟨Bl, 0, none⟩ = some (.int .i64 c)
  y : W.cell? ⟨By, 0, none⟩ = some (.func (.yield l) #[] #[])
  r : W.cell? ⟨Br, 0, none⟩ = some (.slice (some ⟨R, 0, none⟩) p p)
  fl : W.cell? ⟨Bf, 0, none⟩ = some (.func (.func 75) #[] #[.pointer (some ⟨Bm, 0, none⟩), .pointer (some ⟨By, 0, none⟩), .pointer (some ⟨Br, 0, none⟩), .pointer (some ⟨Bl, 0, none⟩), .pointer (some ⟨Bf, 0, none⟩)])
theorem Fm.set {p c l Bm Bl By R Br Bf : Nat} {W : World} (h : Fm p c l Bm Bl By R Br Bf W) (h1 : Bm ≠ R) (h2 : Bl ≠ R) (h3 : By ≠ R) (h4 : Br ≠ R) (h5 : Bf ≠ R) (i : Nat) (v : Value) : Fm p c l Bm Bl By R Br Bf (W.setCell ⟨R, i, none⟩ v) := by
  refine ⟨?_, ?_, ?_, ?_, ?_⟩
  · rw [World.cell?_setCell_other _ _ _ _ (fun e => h1 (by injection e with e _ _; exact e.symm))]; exact h.m
  · rw [World.cell?_setCell_other _ _ _ _ (fun e => h2 (by injection e with e _ _; exact e.symm))]; exact h.less
  · rw [World.cell?_setCell_other _ _ _ _ (fun e => h3 (by injection e with e _ _; exact e.symm))]; exact h.y
  · rw [World.cell?_setCell_other _ _ _ _ (fun e => h4 (by injection e with e _ _; exact e.symm))]; exact h.r
  · rw [World.cell?_setCell_other _ _ _ _ (fun e => h5 (by injection e with e _ _; exact e.symm))]; exact h.fl

def FillPost (p c k i l Bm Bl By R Br Bf : Nat) (J : List (List Int) → World → Prop) (pre : List (List Int)) (f : Nat → Int) (e : Ending) (W' : World) : Prop :=
  e = .returned (.bool true) ∧ J (pre ++ ext c k ((List.range i).map f)) W' ∧ Fm p c l Bm Bl By R Br Bf W' ∧ ∃ f', RowAt W' R p f' ∧ ∀ j, j < i → f' j = f j

def FillLoop (p c k i m l Bm Bl By R Br Bf : Nat) (J : List (List Int) → World → Prop) (pre : List (List Int)) (f : Nat → Int) (W' : World) : Prop :=
  J (pre ++ extTo c k ((List.range i).map f) m) W' ∧ Fm p c l Bm Bl By R Br Bf W' ∧ ∃ f', RowAt W' R p f' ∧ ∀ j, j < i → f' j = f j

set_option maxRecDepth 100000 in
set_option maxHeartbeats 4000000 in
theorem fill_in (p c l Bm Bl By R Br Bf : Nat) (J : List (List Int) → World → Prop) (h1 : Bm ≠ R) (h2 : Bl ≠ R) (h3 : By ≠ R) (h4 : Br ≠ R) (h5 : Bf ≠ R) (hp : p ≤ 1000) (hc : c ≤ 1000)
    (hJs : ∀ pre W i v, J pre W → J pre (W.setCell ⟨R, i, none⟩ (.int .i64 v)))
    (hY : ∀ m pre f W, J pre W → Fm p c l Bm Bl By R Br Bf W → RowAt W R p f → pre.length < 1000 → YieldAt Fence.wide m Try.prog l #[.slice (some ⟨R, 0, none⟩) p p] W fun e W' =>
      e = .returned (.bool true) ∧ J (pre ++ [(List.range p).map f]) W' ∧ Fm p c l Bm Bl By R Br Bf W' ∧ RowAt W' R p f) :
    ∀ (k i : Nat) (x : Int) (n : Nat) (pre : List (List Int)) (f : Nat → Int) (W : World), x = i → i + k = p → J pre W → Fm p c l Bm Bl By R Br Bf W → RowAt W R p f → pre.length + c ^ k ≤ 1000 →
      CallsIn Fence.wide n Try.prog 75 #[.int .i64 x, .pointer (some ⟨Bm, 0, none⟩), .pointer (some ⟨By, 0, none⟩), .pointer (some ⟨Br, 0, none⟩), .pointer (some ⟨Bl, 0, none⟩), .pointer (some ⟨Bf, 0, none⟩)] W (FillPost p c k i l Bm Bl By R Br Bf J pre f) := by
  have HJS := Lib.hid hJs
  have HY := Lib.hid hY
  clear hJs hY
  intro k
  induction k with
  | zero =>
    intro i x n pre f W hx hik hJ hF hR hN
    subst hx
    obtain rfl : i = p := by omega
    obtain ⟨fn, tmps, assign, body, hy, hRd⟩ := HY.out (n - 1) pre f W hJ hF hR (by rw [Nat.pow_zero] at hN; omega)
    obtain ⟨c1, c2, c3, c4, c5⟩ := hF
    have HRD := Lib.hid hRd
    clear hRd hJ hR
    refine callsIn_of_wp Try.func75 rfl trivial ?_ rfl
    simp only [Try.ntmps75, List.size_toArray, List.length_cons, List.length_nil, Nat.reduceAdd, Nat.reduceSub, Array.replicate_succ, Array.replicate_zero, List.push_toArray, List.append_toArray, List.nil_append, List.cons_append]
    gi_wp2
    refine ⟨fun h => (by cases h), HRD.out.mono ?_⟩
    rintro e W2 ⟨rfl, hJ2, hF2, hR2⟩
    have HJ2 := Lib.hid hJ2
    have HF2 := Lib.hid hF2
    have HR2 := Lib.hid hR2
    clear hJ2 hF2 hR2
    gi_wp2
    go_ret
    exact ⟨rfl, HJ2.out, HF2.out, f, HR2.out, fun _ _ => rfl⟩
  | succ k ih =>
    intro i x n pre f W hx hik hJ hF hR hN
    subst hx
    have hne : ((i : Int) == (p : Int)) = false := by rw [beq_eq_false_iff_ne]; omega
    have IH := Lib.hid ih
    have HN := Lib.hid hN
    clear hN
    have HJ := Lib.hid hJ
    have HF := Lib.hid hF
    have HR := Lib.hid hR
    obtain ⟨c1, c2, c3, c4, c5⟩ := hF
    clear ih hJ hR
    refine callsIn_of_wp Try.func75 rfl trivial ?_ rfl
    simp only [Try.ntmps75, List.size_toArray, List.length_cons, List.length_nil, Nat.reduceAdd, Nat.reduceSub, Array.replicate_succ, Array.replicate_zero, List.push_toArray, List.append_toArray, List.nil_append, List.cons_append]
    gi_wp2
    gi_loopw [16] (fun v wr => ∃ m : Nat, m ≤ c ∧ v = .int .i64 m ∧ FillLoop p c k i m l Bm Bl By R Br Bf J pre f wr) (fun v _ => c - (intOf v).toNat)
    case atStart => exact ⟨0, by omega, rfl, by rw [extTo_zero, List.append_nil]; exact HJ.out, HF.out, f, HR.out, fun _ _ => rfl⟩
    case round =>
      clear c1 c2 c3 c4 c5 HJ HF HR
      obtain ⟨m, hm, rfl, hJ, hF, f', hR, hag⟩ := hrel
      by_cases hlt : m < c
      · have hr0 := (hR i (by omega)).1
        have hf0 := (hR i (by omega)).2
        have hF2 := hF.set h1 h2 h3 h4 h5 i (.int .i64 m)
        have hR2 := hR.set i (m : Int)
        have hJ2 := HJS.out _ wr i (m : Int) hJ
        have hlen : (pre ++ extTo c k ((List.range i).map f) m).length + c ^ k ≤ 1000 := by
          have h6 := HN.out
          rw [Nat.pow_succ, Nat.mul_comm] at h6
          have h7 : (m + 1) * c ^ k ≤ c * c ^ k := Nat.mul_le_mul_right _ (by omega)
          rw [Nat.succ_mul] at h7
          rw [List.length_append, extTo_len]
          omega
        have K := Lib.hid (IH.out (i + 1) ((i : Int) + 1) (n - 1) _ _ _ (by omega) (by omega) hJ2 hF2 hR2 hlen)
        have HMAP : Hid ((List.range (i + 1)).map (fun j => if j = i then (m : Int) else f' j) = (List.range i).map f ++ [(m : Int)]) := by
          show _ = _
          rw [List.range_succ, List.map_append]
          congr 1
          · apply List.map_congr_left
            intro j hj
            rw [List.mem_range] at hj
            simp only [if_neg (show ¬ j = i by omega)]
            exact hag j hj
          · simp
        have HAG := Lib.hid hag
        obtain ⟨c1, c2, c3, c4, c5⟩ := hF
        have hi0 : (0 : Int) ≤ (i : Int) := by omega
        have hi1 : (i : Int) < (p : Int) := by omega
        have n5 : ¬ R = Bf := fun e => h5 e.symm
        clear hF2 hR2 hJ2 hJ hR hag hlen
        gi_wp2
        refine ⟨trivial, fun h => (by cases h), K.out.mono ?_⟩
        rintro e W2 ⟨rfl, hJ3, hF3, f3, hR3, hag3⟩
        have HJ3 := Lib.hid hJ3
        have HF3 := Lib.hid hF3
        have HR3 := Lib.hid hR3
        have HAG3 := Lib.hid hag3
        clear hJ3 hF3 hR3 hag3 K c1 c2 c3 c4 c5 hr0 hf0
        gi_wp2
        go_roundw
        case rel =>
          refine ⟨m + 1, by omega, by go_num, ?_, HF3.out, f3, HR3.out, fun j hj => ?_⟩
          · rw [extTo_succ, ← List.append_assoc, ← HMAP.out]; exact HJ3.out
          · rw [HAG3.out j (by omega), if_neg (by omega)]; exact HAG.out j hj
        case measure => simp [intOf]; omega
      · have hmc : m = c := by omega
        have HJ : Hid (J (pre ++ ext c (k + 1) ((List.range i).map f)) wr) := by
          show J _ _
          rw [← extTo_all]
          rw [hmc] at hJ
          exact hJ
        have HF := Lib.hid hF
        have HR := Lib.hid hR
        have HAG := Lib.hid hag
        clear hJ hF hR hag hmc
        gi_wp2
        go_ret
        exact ⟨rfl, HJ.out, HF.out, f', HR.out, HAG.out⟩
end Go.Proofs.Ytkkjgcpkimjfkaa
