/- A number of things and a tree, drawn. -/
import Derived.Test.YtbijpkphbepacaaProg
import Derived.Test.YtbijpkphbepacaaGrown2
import Derived.Test.YtbijpkphbepacaaDraw2
namespace Go.Proofs.Ytbijpkphbepacaa
open Go.RowKit

theorem RdB.of_u {w : World} {R N base : Nat} (h : RdU w R N base) : ∃ bs p, RdB w R bs p ∧ p ≤ N := by
  obtain ⟨_, a, len, cap, p, h1, h2, h3, h4, h5, h6⟩ := h
  by_cases hl : len = 0
  · subst hl
    exact ⟨[], p, ⟨by simp, by simp, a, cap, h1, h2, h3, fun h => absurd rfl h⟩, h4⟩
  · obtain ⟨g, off, e, hne, _, hc⟩ := h6 hl
    have hex : ∃ f : Nat → Nat, ∀ j, j < len → f j < 256 ∧ w.cell? ⟨g, off + j, none⟩ = some (.int .u8 (f j)) :=
      ⟨fun j => if hj : j < len then (hc j hj).choose else 0, fun j hj => by simp only [hj, dif_pos]; exact (hc j hj).choose_spec⟩
    obtain ⟨f, hf⟩ := hex
    refine ⟨(List.range len).map f, p, ⟨by simpa using h5, ?_, a, cap, by simpa using h1, h2, h3, fun _ => ⟨g, off, e, hne, fun j hj => ?_⟩⟩, h4⟩
    · intro x hx
      obtain ⟨j, hj, rfl⟩ := List.mem_map.1 hx
      exact (hf j (List.mem_range.1 hj)).1
    · simp only [List.length_map, List.length_range] at hj
      rw [(hf j hj).2]
      simp [List.getD, hj]
theorem RdB.rdr {w : World} {R p N : Nat} {bs : List Nat} (h : RdB w R bs p) (hp : p ≤ N) : Rdr w R N := by
  obtain ⟨h0, h7, a, cap, h1, h2, h3, h6⟩ := h
  refine ⟨a, bs.length, cap, p, h1, h2, h3, hp, h0, fun hn => ?_⟩
  obtain ⟨g, off, e, hne, hc⟩ := h6 hn
  refine ⟨g, off, e, hne, fun j hj => ⟨bs.getD j 0, h7 _ ?_, hc j hj⟩⟩
  rw [List.getD_eq_getElem?_getD, List.getElem?_eq_getElem hj]
  exact List.getElem_mem hj
theorem RdU.rdr {w : World} {R N base : Nat} (h : RdU w R N base) : Rdr w R N := by
  obtain ⟨bs, p, hb, hp⟩ := RdB.of_u h
  exact hb.rdr hp

theorem grownBy_allocd {w w2 : World} {R : Nat} {c : Obj} (h : (w.alloc c).grownBy w2 (some R)) : w.grownBy w2 (some R) :=
  grownBy_then2 (grownBy_any _ ((Below.refl _ _).alloc (Nat.le_refl _) _)) h
theorem grownBy_alloc {w w2 : World} {R : Nat} (h : w.grownBy w2 (some R)) (c : Obj) : w.grownBy (w2.alloc c) (some R) :=
  grownBy_then2 h (grownBy_any _ ((Below.refl _ _).alloc (Nat.le_refl _) _))

def GrPost (R N : Nat) (w : World) (e : Ending) (w' : World) : Prop :=
  ∃ (m : Nat) (s : ByteArray), e = .returned (.tuple #[.int .i64 m, .string s]) ∧ 1 ≤ m ∧ m ≤ 9 ∧ s.size ≤ 200 ∧ Rdr w' R (N + 50) ∧ w.grownBy w' (some R)

set_option maxHeartbeats 8000000 in
theorem grown_any (R N : Nat) (n : Int) (hn : 0 ≤ n) (hn2 : n ≤ 1000) (hN : N ≤ 100000) (w : World) (h : Rdr w R N) :
    Calls Try.prog 49 #[.pointer (some ⟨R, 0, none⟩), .int .i64 n] w (GrPost R N w) := by
  have hr0 := h.toU
  have hR0 := h.lt
  clear h
  go_enter Try.func49, Try.ntmps49
  go_wp2_with fail
  refine (pick_u R N 9 (by omega) (by omega) (by omega) _ w.heap.size hr0).mono ?_
  rintro e w1 ⟨x, rfl, hx0, hx1, hr1, hg1⟩
  obtain ⟨m, hm⟩ : ∃ m : Nat, 1 + x = m := ⟨(1 + x).toNat, by omega⟩
  have hm1 : 1 ≤ m := by omega
  have hm2 : m ≤ 9 := by omega
  have HG1 := Lib.hid hg1
  have HR1 := Lib.hid (hr1.base hg1.size)
  have hR1 : R < w1.heap.size := HR1.out.1
  clear hx0 hx1 hr0 hr1 hg1
  go_wp2_with fail
  refine (mixed_any R (N + 1) m hm1 (by omega) (by omega) w1 HR1.out).mono ?_
  rintro e w2 ⟨g, cap, L, rfl, hL, hbd, ho, hcm, hr2, hg2⟩
  have HG2 := Lib.hid (grownBy_then2 HG1.out hg2)
  have hz2 := hg2.size
  clear HR1 hg2
  go_wp2_with fail
  refine (tree_any (m + 1) R (N + 1 + 20) m g 0 cap w1.heap.size L w2 (by omega) hm1 (by omega) (by omega) hL hbd ho hcm hR1 hz2 hr2).mono ?_
  rintro e w3 ⟨s, rfl, hs1, hs2, hr3, hg3⟩
  have HG3 := Lib.hid (grownBy_then2 HG2.out hg3)
  have hz3 : w1.heap.size ≤ w3.heap.size := Nat.le_trans hz2 hg3.size
  clear hL hbd ho hcm hr2 HG2 hg3 hz2
  go_wp2_with fail
  refine (odd_u R (N + 1 + 20 + (m - 1)) n hn (by omega) (by omega) _ w1.heap.size hr3).mono ?_
  rintro e w4 ⟨b, rfl, hr4, hg4⟩
  have HG4 := Lib.hid (grownBy_then2 HG3.out hg4)
  have hz4 : w1.heap.size ≤ w4.heap.size := Nat.le_trans hz3 hg4.size
  clear hr3 HG3 hg4 hz3
  cases b with
  | false =>
    go_wp2_with fail
    go_ret2
    exact ⟨m, s, rfl, hm1, hm2, by omega, hr4.rdr.more (by omega), HG4.out⟩
  | true =>
    have hss : s.size ≤ 25 := by omega
    go_wp2_with fail
    refine (pick_u R (N + 1 + 20 + (m - 1) + 1) s.size (by omega) (by omega) (by omega) _ w1.heap.size hr4).mono ?_
    rintro e w5 ⟨k0, rfl, hk0, hk1, hr5, hg5⟩
    obtain ⟨k, rfl⟩ := Int.eq_ofNat_of_zero_le hk0
    have HG5 := Lib.hid (grownBy_then2 HG4.out hg5)
    have hR5 : R < w5.heap.size := hr5.rdr.lt
    have hn5 : w5.heap.size ≠ R := by omega
    obtain ⟨bs, p, hb, hp⟩ := RdB.of_u hr5
    clear hr4 hr5 HG4 hg5
    obtain ⟨v0, e0⟩ : ∃ v, v = val bs p 5 := ⟨_, rfl⟩
    have l0 : 0 ≤ v0 := by rw [e0]; exact val_lo _ _ _ (by omega)
    have u0 : v0 < 5 := by rw [e0]; exact val_hi _ _ _ (by omega)
    have c0 := rdAsk (R := R) p e0 (by omega) (by omega) (by omega)
    clear e0
    have hw1 : IntKind.i64.wrap ((k : Int) + 1) = (k : Int) + 1 := IntWalk.i64_in _ (by omega)
    have hw2 : (0 : Int) ≤ (k : Int) + 1 := by omega
    have hw3 : ((k : Int) + 1).toNat = k + 1 := by omega
    have hw4 : (k : Int) + 1 ≤ (s.size : Int) := by omega
    have hz1 : (s.extract 0 k).size ≤ 25 := by rw [ByteArray.size_extract]; omega
    have hz2 : (s.extract (k + 1) s.size).size ≤ 25 := by rw [ByteArray.size_extract]; omega
    have hk2 : (k : Int) ≤ (s.size : Int) := by omega
    go_wp2_with fail
    obtain rfl | rfl | rfl | rfl | rfl : v0 = 0 ∨ v0 = 1 ∨ v0 = 2 ∨ v0 = 3 ∨ v0 = 4 := by omega
    all_goals
      go_region_with (first
        | (go_at_call 46; (with_reducible refine (c0.out _ (by first | assumption | exact RdB.drew (by assumption) | exact RdB.alloc (by assumption) _ | exact RdB.drew (RdB.alloc (by assumption) _))).mono ?_); rintro e w6 ⟨rfl, hr6, hg6, hc6, hs6, hn6⟩))
      all_goals
        go_wp2_with fail
        go_ret2
        refine ⟨m, _, rfl, hm1, hm2, ?_, ?_, grownBy_then2 HG5.out ?_⟩
        · have e0 : (ByteArray.mk #[]).size = 0 := rfl
          have e97 : (ByteArray.mk #[97]).size = 1 := rfl
          have e40 : (ByteArray.mk #[40]).size = 1 := rfl
          have e41 : (ByteArray.mk #[41]).size = 1 := rfl
          have e122 : (ByteArray.mk #[122, 122]).size = 2 := rfl
          simp only [ByteArray.size_append', e0, e97, e40, e41, e122]
          omega
        · first
            | exact hr6.rdr (by omega)
            | exact (hr6.alloc _).rdr (by omega)
        · first
            | exact undrew hg6
            | exact undrew (grownBy_allocd hg6)
            | exact undrew (grownBy_alloc hg6 _)
end Go.Proofs.Ytbijpkphbepacaa
