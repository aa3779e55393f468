/- The law FnHalvesOf. -/
import Derived.Test.YtbijpkphbepacaaProg
import Derived.Test.YtbijpkphbepacaaGrown4
import Derived.Test.YtbijpkphbepacaaTreeM
import Derived.Test.YtbijpkphbepacaaAlive
import Derived.Test.YtbijpkphbepacaaHalves
namespace Go.Proofs.Ytbijpkphbepacaa
open Go.RowKit

def HF (m : Nat) : Bool := TB m (HS m) && decide ((DO m (HS m)).length = m) && (DO m (HS m)).all (fun x => decide (0 ≤ x ∧ x ≤ 9) && (DO m (HS m)).all fun y => decide (x - y ≤ 1))
theorem HF_all : ∀ m, m < 9 → HF (m + 1) = true := by decide +kernel
theorem HF_is {m : Nat} (h1 : 1 ≤ m) (h2 : m ≤ 9) : TB m (HS m) = true ∧ (DO m (HS m)).length = m ∧ (∀ x ∈ DO m (HS m), 0 ≤ x ∧ x ≤ 9) ∧ ∀ x ∈ DO m (HS m), ∀ y ∈ DO m (HS m), x - y ≤ 1 := by
  obtain ⟨m, rfl⟩ : ∃ k, m = k + 1 := ⟨m - 1, by omega⟩
  have h := HF_all m (by omega)
  unfold HF at h
  simp only [Bool.and_eq_true, decide_eq_true_eq, List.all_eq_true] at h
  exact ⟨h.1.1, h.1.2, fun x hx => (h.2 x hx).1, fun x hx y hy => (h.2 x hx).2 y hy⟩
theorem HS_ne {m : Nat} (h1 : 1 ≤ m) (h2 : m ≤ 9) : 1 ≤ (HS m).length ∧ (HS m).length ≤ 100 := by
  unfold HS
  rw [if_pos (by omega), Int.toNat_natCast]
  have h1 := text_len (halvesT 20 0 m)
  rw [halvesT_len 20 0 m (by omega) (by omega)] at h1
  omega

set_option maxHeartbeats 2000000 in
theorem law_FnHalvesOf (a0 : Option Addr) (len0 cap0 : Nat) (z0 : List Int) (w : World) (w0 : IsRow .u8 w a0 len0 cap0 z0) :
    Calls Try.prog 8 #[.slice a0 len0 cap0] w fun e w' => e = .returned (.bool true) ∧ Below w.heap.size w w' := by
  have hc := Code8.of_row w0
  clear w0
  by_cases hl : 1048576 < len0
  · go_enter Try.func8, Try.ntmps8
    go_wp2_with fail
    go_ret
    exact ⟨rfl, Below.refl _ _⟩
  · go_enter Try.func8, Try.ntmps8
    go_wp2_with fail
    refine (draw_HalvesOf _ _ _ _ hc).mono ?_
    rintro e w1 ⟨x, rfl, hx1, hx2, hb1⟩
    clear hc
    go_wp2_with fail
    refine (impl_HalvesOf x _).mono ?_
    rintro e w2 ⟨s, rfl, hs, rfl⟩
    go_wp2_with fail
    refine (spec_HalvesOf x _).mono ?_
    rintro e w2 ⟨s2, rfl, hs2, hb2⟩
    have h : (s.toList == s2.toList) = true := by rw [ByteArray.toList_eq, ByteArray.toList_eq, hs, hs2]; simp
    have hb := hb1.trans (hb2.mono hb1.size)
    clear hs2 hb1 hb2
    by_cases hin : 1 ≤ x ∧ x ≤ 9
    · obtain ⟨m, rfl⟩ := Int.eq_ofNat_of_zero_le (show 0 ≤ x by omega)
      obtain ⟨f1, f2, f3, f4⟩ := HF_is (m := m) (by omega) (by omega)
      obtain ⟨f5, f6⟩ := HS_ne (m := m) (by omega) (by omega)
      have hsz : s.size = (HS m).length := by rw [← hs]; cases s; rfl
      have k1 := Lib.hid (impl_DepthsOf2 m s (by omega) w2)
      have k2 := Lib.hid (fun w => impl_TreeOk m s (by omega) w)
      rw [hs] at k1 k2
      rw [f1] at k2
      have hnn : (s.toList == []) = false := by rw [ByteArray.toList_eq, hs]; simp; intro e; rw [e] at f5; simp at f5
      generalize DO m (HS m) = L at *
      subst f2
      have H3 := Lib.hid f3
      have H4 := Lib.hid f4
      have H5 := Lib.hid (show L ≠ [] by intro e; rw [e] at hin; simp at hin)
      clear f3 f4 f1 f5 f6 hs hsz
      go_wp2_with fail
      refine k1.out.mono ?_
      rintro e w3 ⟨v, rfl, o3, hb3⟩
      have hbel := hb.trans (hb3.mono hb.size)
      obtain ⟨a, ca, rfl, _, ho⟩ := o3.rd
      obtain ⟨g, off, rfl, hcell⟩ := ho H5.out
      have HC := Lib.hid hcell
      have HB := Lib.hid hbel
      clear hb hb3 o3 ho hcell hbel k1 h hnn
      go_wp2_with fail
      go_loopw [6] (fun v wr => ∃ k : Nat, k ≤ L.length ∧ v = .int .i64 k ∧ Below w3.heap.size w3 wr) (fun v _ => L.length - (intOf v).toNat)
      case atStart => exact ⟨0, by omega, rfl, Below.refl _ _⟩
      case round =>
        obtain ⟨k, hk, rfl, hbr⟩ := hrel
        by_cases hlt : k < L.length
        · obtain ⟨x1, x2⟩ := H3.out _ (getD_mem' (j := k) hlt)
          obtain ⟨x, hx⟩ : ∃ x, x = L.getD k 0 := ⟨_, rfl⟩
          rw [← hx] at x1 x2
          have HX := Lib.hid hx
          clear hx
          go_wp2_with fail
          go_loopw [7] (fun v wr => ∃ j : Nat, j ≤ L.length ∧ v = .int .i64 j ∧ Below w3.heap.size w3 wr) (fun v _ => L.length - (intOf v).toNat)
          case atStart => exact ⟨0, by omega, rfl, hbr⟩
          case round =>
            clear hbr
            obtain ⟨j, hj, rfl, hbr⟩ := hrel
            by_cases hjk : j < L.length
            · have hck0 := HC.out k hlt
              have hck := (hbr.cell (p := ⟨g, off + k, none⟩) (World.block_lt_of_cell? w3 _ hck0)).trans hck0
              rw [← HX.out] at hck
              have hcj0 := HC.out j hjk
              have hcj := (hbr.cell (p := ⟨g, off + j, none⟩) (World.block_lt_of_cell? w3 _ hcj0)).trans hcj0
              clear hck0 hcj0
              obtain ⟨y1, y2⟩ := H3.out _ (getD_mem' (j := j) hjk)
              have hxy : x - L.getD j 0 ≤ 1 := by rw [HX.out]; exact H4.out _ (getD_mem' (j := k) hlt) _ (getD_mem' (j := j) hjk)
              generalize L.getD j 0 = y at *
              have hi0 : (0 : Int) ≤ (k : Int) := by omega
              have hi1 : (k : Int) < (L.length : Int) := by omega
              have hj0 : (0 : Int) ≤ (j : Int) := by omega
              have hj1 : (j : Int) < (L.length : Int) := by omega
              have hw1 : IntKind.i64.wrap (x - y) = x - y := IntWalk.i64_in _ (by omega)
              go_wp2_with fail
              go_quiet (fail)
              go_wp2_with fail
              go_roundw
              case rel => exact ⟨j + 1, by omega, by go_num, below_drewN hbr _⟩
              case measure => simp [intOf]; omega
            · go_wp2_with fail
              go_roundw
              case rel => exact ⟨k + 1, by omega, by go_num, hbr⟩
              case measure => simp [intOf]; omega
        · have hb := HB.out.trans (hbr.mono HB.out.size)
          clear hbr
          go_wp2_with fail
          refine (k2.out _).mono ?_
          rintro e w5 ⟨rfl, hb5⟩
          go_wp2_with fail
          go_ret
          exact ⟨rfl, hb.trans (hb5.mono hb.size)⟩
    · rw [HS_out hin] at hs
      have hnn : (s.toList == []) = true := by rw [ByteArray.toList_eq, hs]; rfl
      clear hs hin
      go_wp2_with (first | (go_at_call 30; refine (alive_any _).mono ?_; rintro e w5 ⟨rfl, rfl⟩))
      go_ret
      exact ⟨rfl, hb⟩
end Go.Proofs.Ytbijpkphbepacaa
