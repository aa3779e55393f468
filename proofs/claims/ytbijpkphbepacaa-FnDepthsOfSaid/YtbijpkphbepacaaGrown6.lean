/- The law FnDepthsOf. -/
import Derived.Test.YtbijpkphbepacaaProg
import Derived.Test.YtbijpkphbepacaaGrown4
import Derived.Test.YtbijpkphbepacaaTreeM
import Derived.Test.YtbijpkphbepacaaAlive
namespace Go.Proofs.Ytbijpkphbepacaa
open Go.RowKit

/-- the sum of the powers -/
def PS (t : T) : Nat → Nat
  | 0 => 0
  | k + 1 => PS t k + 2 ^ (9 - dep t k)
theorem PS_kr (t : T) : ∀ k, PS t k = kr 9 (td [] k t)
  | 0 => rfl
  | k + 1 => by
    have e : td [] (k + 1) t = td [] k t ++ [(([] : List Int).getD k 0, dep t k)] := by unfold td; rw [List.range_succ, List.map_append]; rfl
    rw [e, kr_append, PS, PS_kr t k]
    simp [kr]
theorem PS_bd (t : T) : ∀ k, PS t k ≤ 512 * k
  | 0 => Nat.le_refl _
  | k + 1 => by
    have h1 := PS_bd t k
    have h2 : 2 ^ (9 - dep t k) ≤ 2 ^ 9 := Nat.pow_le_pow_right (by omega) (by omega)
    rw [PS]
    omega

set_option maxHeartbeats 2000000 in
theorem law_FnDepthsOf (a0 : Option Addr) (len0 cap0 : Nat) (z0 : List Int) (w : World) (w0 : IsRow .u8 w a0 len0 cap0 z0) :
    Calls Try.prog 10 #[.slice a0 len0 cap0] w fun e w' => e = .returned (.bool true) ∧ Below w.heap.size w w' := by
  have hc := Code8.of_row w0
  clear w0
  by_cases hl : 1048576 < len0
  · go_enter Try.func10, Try.ntmps10
    go_wp2_with fail
    go_ret
    exact ⟨rfl, Below.refl _ _⟩
  · go_enter Try.func10, Try.ntmps10
    go_wp2_with fail
    refine (draw_DepthsOf _ _ _ _ hc).mono ?_
    rintro e w1 ⟨m, s, rfl, hm1, hm2, hs, hb1⟩
    have k0 := Lib.hid (fun w => impl_TreeOk m s (by omega) w)
    have k1 := Lib.hid (fun w => impl_DepthsOf2 m s (by omega) w)
    have k2 := Lib.hid (fun w => spec_DepthsOf m s (by omega) w)
    clear hc
    cases ht : TO m s.data.toList with
    | none =>
      rw [DO_none ht] at k1 k2
      rw [show TB m s.data.toList = false by unfold TB; rw [ht]; rfl] at k0
      clear ht
      go_wp2_with fail
      refine (k1.out _).mono ?_
      rintro e w2 ⟨v, rfl, o2, hb2⟩
      go_wp2_with fail
      refine (k2.out _).mono ?_
      rintro e w3 ⟨u, rfl, o3, hb3⟩
      have o2 := o2.below hb3
      go_wp2_with fail
      refine (sameInts_yes _ _ [] _ o2.rd o3.rd).mono ?_
      rintro e w4 ⟨rfl, hb4⟩
      have o4 := o2.rd.below hb4
      have hbel : Below w.heap.size w w4 := hb1.trans ((hb2.mono hb1.size).trans ((hb3.mono (Nat.le_trans hb1.size hb2.size)).trans (hb4.mono (Nat.le_trans (Nat.le_trans hb1.size hb2.size) hb3.size))))
      have hsz := hbel.size
      obtain ⟨a, ca, rfl, _, _⟩ := o4
      clear hb1 hb2 hb3 hb4 o2 o3 k1 k2
      go_wp2_with fail
      refine (k0.out _).mono ?_
      rintro e w5 ⟨rfl, hb5⟩
      go_wp2_with (first | (go_at_call 30; refine (alive_any _).mono ?_; rintro e w6 ⟨rfl, rfl⟩))
      go_ret
      exact ⟨rfl, hbel.trans (hb5.mono hsz)⟩
    | some t =>
      have hg := (TO_some.1 ht).2.2
      rw [Int.toNat_natCast] at hg
      have hps : PS t m = 512 := by rw [PS_kr, td_kraft hg (by omega) [] 9 (by omega)]
      have hdl : ∀ j, dep t j ≤ 8 := fun j => by have := dep_lt hg j; omega
      have hL : DO m s.data.toList = DL m t := by rw [DO_some ht, Int.toNat_natCast]
      rw [hL] at k1 k2
      have hlen := DL_length m t
      have hget := DL_getD m t
      have hne : DL m t ≠ [] := by intro e; rw [e] at hlen; simp at hlen; omega
      generalize DL m t = L at *
      subst hlen
      have HP := Lib.hid hps
      have HD := Lib.hid hdl
      have HG := Lib.hid hget
      clear hps hdl hget ht hg hL
      go_wp2_with fail
      refine (k1.out _).mono ?_
      rintro e w2 ⟨v, rfl, o2, hb2⟩
      go_wp2_with fail
      refine (k2.out _).mono ?_
      rintro e w3 ⟨u, rfl, o3, hb3⟩
      have o2 := o2.below hb3
      go_wp2_with fail
      refine (sameInts_yes _ _ L _ o2.rd o3.rd).mono ?_
      rintro e w4 ⟨rfl, hb4⟩
      have o4 := o2.rd.below hb4
      have hbel : Below w.heap.size w w4 := hb1.trans ((hb2.mono hb1.size).trans ((hb3.mono (Nat.le_trans hb1.size hb2.size)).trans (hb4.mono (Nat.le_trans (Nat.le_trans hb1.size hb2.size) hb3.size))))
      obtain ⟨a, ca, rfl, _, ho⟩ := o4
      obtain ⟨g, off, rfl, hcell⟩ := ho hne
      have HC := Lib.hid hcell
      have HB := Lib.hid hbel
      clear hb1 hb2 hb3 hb4 o2 o3 k0 k1 k2 ho hcell hbel hne
      go_wp2_with fail
      go_loop [6, 7] (fun x v => ∃ k : Nat, k ≤ L.length ∧ v = .int .i64 k ∧ x = .int .i64 (PS t k)) (fun _ v => L.length - (intOf v).toNat)
      case atStart => exact ⟨0, by omega, rfl, rfl⟩
      case round =>
        obtain ⟨k, hk, rfl, rfl⟩ := hrel
        by_cases hlt : k < L.length
        · have hck := HC.out k hlt
          rw [HG.out k hlt] at hck
          have hd := HD.out k
          have hps : PS t (k + 1) = PS t k + 2 ^ (9 - dep t k) := rfl
          have hbd := PS_bd t (k + 1)
          obtain ⟨q, hq⟩ : ∃ q : Nat, (9 : Int) - (dep t k : Int) = q := ⟨9 - dep t k, by omega⟩
          rw [show 9 - dep t k = q by omega] at hps
          obtain ⟨P, hP⟩ : ∃ P : Nat, P = PS t k := ⟨_, rfl⟩
          rw [← hP] at hps ⊢
          obtain ⟨Q, hQ⟩ : ∃ Q : Nat, 2 ^ q = Q := ⟨_, rfl⟩
          have hQc : ((2 : Int) ^ q) = (Q : Int) := by rw [← hQ]; simp
          rw [hQ] at hps
          have HQ := Lib.hid hps
          have hPb : P + Q ≤ 512 * (k + 1) := by omega
          have hw1 : IntKind.i64.wrap (Q : Int) = Q := IntWalk.i64_in _ (by omega)
          have hw2 : IntKind.i64.wrap ((P : Int) + Q) = P + Q := IntWalk.i64_in _ (by omega)
          have hi0 : (0 : Int) ≤ (k : Int) := by omega
          have hi1 : (k : Int) < (L.length : Int) := by omega
          generalize dep t k = d at *
          have hq1 : q ≤ 9 := by omega
          clear hps hbd hP
          go_wp2_with fail
          go_round
          case rel => exact ⟨k + 1, by omega, by go_num, by rw [HQ.out, Int.natCast_add]⟩
          case measure => simp [intOf]; omega
        · have hke : k = L.length := by omega
          subst hke
          have hps := HP.out
          rw [hps]
          clear HP hps
          go_wp2_with fail
          go_ret
          exact ⟨rfl, HB.out⟩
end Go.Proofs.Ytbijpkphbepacaa
