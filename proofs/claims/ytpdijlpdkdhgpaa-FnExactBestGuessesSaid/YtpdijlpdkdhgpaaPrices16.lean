/- BestGuesses: the texts of the plans, both. -/
import Derived.Test.YtpdijlpdkdhgpaaProg
import Derived.Test.YtpdijlpdkdhgpaaPrices9
import Derived.Test.YtpdijlpdkdhgpaaPrices15
import Derived.Deep.RegionHeld3
import Derived.Laws.Concat
namespace Go.Proofs.Ytpdijlpdkdhgpaa
open Go.RowKit

theorem bcell {W w1 : World} (hb : Below W.heap.size W w1) : (∀ b o, b < W.heap.size → w1.cell? ⟨b, o, none⟩ = W.cell? ⟨b, o, none⟩) ∧ (∀ b o, b < W.heap.size → w1.frozen? ⟨b, o, none⟩ = W.frozen? ⟨b, o, none⟩) :=
  ⟨fun b o h => hb.cell (p := ⟨b, o, none⟩) h, fun b o h => hb.frozen (p := ⟨b, o, none⟩) h⟩
theorem enc_dig (a : Nat) (h : a < 10) : (Utf8.encode (48 + (a : Int))).data.toList = [dig a] := by
  have h1 : (48 + (a : Int)).toNat = 48 + a := by omega
  have h2 : Utf8.valid (48 + (a : Int)) = true := by rw [validRune_eq]; unfold validRune; exact decide_eq_true (.inl ⟨by omega, by omega⟩)
  unfold Utf8.encode
  simp only [h2, if_true, h1]
  rw [if_pos (by omega)]
  rfl
theorem size_of_list {s : ByteArray} {t : List UInt8} (h : s.data.toList = t) : s.size = t.length := by subst h; cases s; rfl

def TxPost (t : List UInt8) (w : World) (e : Ending) (w' : World) : Prop := ∃ s : ByteArray, e = .returned (.string s) ∧ s.data.toList = t ∧ Below w.heap.size w w'

set_option maxRecDepth 100000 in
set_option maxHeartbeats 4000000 in
theorem text_any (xs : List Int) (n : Nat) (va : Value) (Bp BN BF mF : Nat) (g : Nat × Nat → Option Value) (w0 : World) (hn9 : n ≤ 9) (hx : ∀ j, 0 ≤ xs.getD j 0 ∧ xs.getD j 0 ≤ 50)
    (hp : Plans w0 Bp va BN BF) (hF : RM w0 BF mF g) (hg : ∀ i j, i < j → j ≤ n → g (i, j) = some (.int .i64 (Fx xs i j))) (f : Nat) :
    ∀ (a b : Nat) (x y : Int) (w : World), x = a → y = b → b - a ≤ f → a ≤ b → b ≤ n → Below w0.heap.size w0 w →
    Calls Try.prog 30 #[.pointer (some ⟨Bp, 0, none⟩), .agg #[.int .i64 x, .int .i64 y]] w (TxPost (Tx xs f a b) w) := by
  have HX := Lib.hid hx
  have HP := Lib.hid hp
  have HF := Lib.hid hF
  have HG := Lib.hid hg
  clear hx hp hF hg
  induction f with
  | zero =>
    intro a b x y w hxa hyb h hab hbn hbel
    obtain rfl : a = b := by omega
    subst hxa
    subst hyb
    clear hbel
    go_enter Try.func30, Try.ntmps30
    go_wp2_with fail
    go_ret
    exact ⟨_, rfl, rfl, (Below.refl _ _).alloc (Nat.le_refl _) _⟩
  | succ f ih =>
    intro a b x y w hxa hyb h hab hbn hbel
    subst hxa
    subst hyb
    have IH := Lib.hid ih
    clear ih
    by_cases e : a = b
    · subst e
      have ht : Tx xs (f + 1) a a = [46] := Tx_short (Nat.le_refl _)
      rw [ht]
      clear ht hbel
      go_enter Try.func30, Try.ntmps30
      go_wp2_with fail
      go_ret
      exact ⟨_, rfl, rfl, (Below.refl _ _).alloc (Nat.le_refl _) _⟩
    · have hlt : a < b := by omega
      have hq := Fx_in HX.out hlt
      have ht : Tx xs (f + 1) a b = _ := Tx_long hlt
      rw [ht]
      have hgab := HG.out a b hlt hbn
      have l1 := Tx_len HX.out f a (Fx xs a b) (by omega) hq.1
      have l2 := Tx_len HX.out f (Fx xs a b + 1) b (by omega) (by omega)
      generalize Fx xs a b = q at *
      have heq : ((a : Int) == (b : Int)) = false := by rw [beq_eq_false_iff_ne]; omega
      have hv : Below w.heap.size w (w.alloc (.cells #[.int .i64 a, .int .i64 b] 43)) := (Below.refl _ _).alloc (Nat.le_refl _) _
      have hz0 := hbel.size
      have hBp : Bp < w0.heap.size := World.block_lt_of_cell? w0 _ HP.out.c2
      have c2 : w.cell? ⟨Bp, 2, none⟩ = some (.map (some BF)) := (hbel.cell (p := ⟨Bp, 2, none⟩) hBp).trans HP.out.c2
      have hneB : w.heap.size ≠ Bp := by omega
      have hl : ∀ m, (Instr.lookup 37 (.map (some BF)) (.agg #[.int .i64 a, .int .i64 b]) false).run Try.prog ((w.alloc (.cells #[.int .i64 a, .int .i64 b] 43)).drewN m) = .ok (.int .i64 q) ((w.alloc (.cells #[.int .i64 a, .int .i64 b] 43)).drewN m) := fun m => by
        have hm := HF.out.kept (grownBy_any none (hbel.trans ((below_drewN hv m).mono hz0))) (by simp)
        exact RM.get hm a b (by omega) (by omega) (by rw [hgab]; rfl)
      have K1 := Lib.hid (fun W (hb : Below w.heap.size w W) => IH.out a q a q W rfl rfl (by omega) (by omega) (by omega) (hbel.trans (hb.mono hz0)))
      have K2 := Lib.hid (fun W (hb : Below w.heap.size w W) => IH.out (q + 1) b ((q : Int) + 1) b W (by omega) rfl (by omega) (by omega) (by omega) (hbel.trans (hb.mono hz0)))
      have HE := Lib.hid (enc_dig q (by omega))
      have he1 : (Utf8.encode (48 + (q : Int))).size = 1 := by rw [size_of_list HE.out]; rfl
      have HV := Lib.hid hv
      clear ht hgab hbel hv IH e
      go_enter Try.func30, Try.ntmps30
      go_wp2_with fail
      obtain ⟨wB, hwB⟩ : ∃ wB, wB = w.alloc (.cells #[.int .i64 a, .int .i64 b] 43) := ⟨_, rfl⟩
      rw [← hwB]
      rw [← hwB] at hl HV
      have b0 : wB.cell? ⟨w.heap.size, 0, none⟩ = some (.int .i64 a) := by rw [hwB]; simp
      have b1 : wB.cell? ⟨w.heap.size, 1, none⟩ = some (.int .i64 b) := by rw [hwB]; simp
      have b2 : wB.cell? ⟨Bp, 2, none⟩ = some (.map (some BF)) := (HV.out.cell (p := ⟨Bp, 2, none⟩) (show Bp < w.heap.size by omega)).trans c2
      clear hwB c2
      go_quiet (fail)
      clear hl
      generalize hw1 : wB.drewN _ = w1
      have hb1 : Below w.heap.size w w1 := by rw [← hw1]; exact below_drewN HV.out _
      have hc0 : w1.cell? ⟨w.heap.size, 0, none⟩ = some (.int .i64 a) := by rw [← hw1]; simpa using b0
      have hc1 : w1.cell? ⟨w.heap.size, 1, none⟩ = some (.int .i64 b) := by rw [← hw1]; simpa using b1
      have hs1 : w.heap.size < w1.heap.size := World.block_lt_of_cell? w1 _ hc0
      have k1 := Lib.hid (K1.out w1.drew hb1.drew)
      have HB1 := Lib.hid hb1
      clear hw1 hb1
      have a1 : IntKind.i64.wrap (48 + (q : Int)) = 48 + (q : Int) := IntWalk.i64_in _ (by omega)
      have a2 : IntKind.i32.wrap (48 + (q : Int)) = 48 + (q : Int) := IntWalk.i32_in _ (by omega)
      have a3 : IntKind.i64.wrap ((q : Int) + 1) = (q : Int) + 1 := IntWalk.i64_in _ (by omega)
      go_wp2_with fail
      go_region_held3 (fun w' => w'.cell? ⟨w.heap.size, 0, none⟩ = some (.int .i64 a) ∧ w'.cell? ⟨w.heap.size, 1, none⟩ = some (.int .i64 b))
        (first | go_keep | (go_split_ands; exact ⟨e0', e1'⟩) | (go_split_ands; exact ⟨d0, d1⟩))
        (first
          | (go_at_call 30; (with_reducible refine k1.out.mono ?_); rintro e w2 ⟨s1, rfl, hs1', hb2⟩
             have d0 : w2.cell? ⟨w.heap.size, 0, none⟩ = some (.int .i64 a) := (hb2.cell (p := ⟨w.heap.size, 0, none⟩) hs1).trans hc0
             have d1 : w2.cell? ⟨w.heap.size, 1, none⟩ = some (.int .i64 b) := (hb2.cell (p := ⟨w.heap.size, 1, none⟩) hs1).trans hc1
             have hz1 : s1.size ≤ 100 := by rw [size_of_list hs1']; omega
             have f1 : ¬ 9223372036854775807 < 1 + s1.size := by omega
             have f2 : ¬ 9223372036854775807 < 1 + s1.size + 1 := by omega
             have H1 := Lib.hid hs1'
             have k2 := Lib.hid (K2.out w2 (HB1.out.drew.trans (hb2.mono HB1.out.size)))
             have HB2 := Lib.hid (HB1.out.drew.trans (hb2.mono HB1.out.size))
             have hs2 : w.heap.size < w2.heap.size := Nat.lt_of_lt_of_le hs1 hb2.size
             clear hs1' hb2 k1)
          | (go_at_call 30; (with_reducible refine k2.out.mono ?_); rintro e w3 ⟨s2, rfl, hs2', hb3⟩
             have e0' : w3.cell? ⟨w.heap.size, 0, none⟩ = some (.int .i64 a) := (hb3.cell (p := ⟨w.heap.size, 0, none⟩) hs2).trans d0
             have e1' : w3.cell? ⟨w.heap.size, 1, none⟩ = some (.int .i64 b) := (hb3.cell (p := ⟨w.heap.size, 1, none⟩) hs2).trans d1
             have hz2 : s2.size ≤ 100 := by rw [size_of_list hs2']; omega
             have f3 : ¬ 9223372036854775807 < 1 + s1.size + 1 + s2.size := by omega
             have f4 : ¬ 9223372036854775807 < 1 + s1.size + 1 + s2.size + 1 := by omega
             have H2 := Lib.hid hs2'
             have HB3 := Lib.hid (HB2.out.trans (hb3.mono HB2.out.size))
             clear hs2' hb3 k2))
      clear a1 a2 a3 f1 f2 f3 f4
      go_wp2_with fail
      go_ret
      refine ⟨_, rfl, ?_, HB3.out⟩
      rw [ByteArray.data_append, ByteArray.data_append, ByteArray.data_append, ByteArray.data_append]
      simp [H1.out, H2.out, HE.out]

theorem l1Number_dig (k : Nat) (hk : k < 10) (x : Int) (hx : x = k) (w : World) : Calls Try.prog 38 #[.int .i64 x] w (TxPost [dig k] w) := by
  subst hx
  have hln : (((dig k).toNat : Nat) : Int) = 48 + (k : Int) := by rw [dig_toNat k (by omega)]; simp
  have hcv : ∀ W : World, (convert 28 9 (.slice (some ⟨W.heap.size, 0, none⟩) 1 1)).run Try.prog (W.alloc (.cells #[.int .u8 (48 + (k : Int))] 5)) = .ok (.string ⟨#[dig k]⟩) (W.alloc (.cells #[.int .u8 (48 + (k : Int))] 5)) := by
    intro W
    have := run_convert_bytes_back (P := Try.prog) (W.alloc (.cells #[.int .u8 (48 + (k : Int))] 5)) 28 9 5 ⟨W.heap.size, 0, none⟩ 1 [dig k] Try.underlying28 Try.underlying5 Try.underlying9 (by
      intro j hj
      simp only [List.length_cons, List.length_nil] at hj
      obtain rfl : j = 0 := by omega
      simp [Addr.add, hln])
    exact this
  clear hln
  go_enter Try.func38, Try.ntmps38
  go_wp2_with fail
  go_ret
  exact ⟨_, rfl, rfl, (Below.refl _ _).alloc (Nat.le_refl _) _⟩
end Go.Proofs.Ytpdijlpdkdhgpaa
