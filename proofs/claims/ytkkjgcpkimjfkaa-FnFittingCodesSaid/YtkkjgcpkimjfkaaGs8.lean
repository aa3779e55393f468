/- Guesses, drawn. -/
import Derived.Test.YtkkjgcpkimjfkaaProg
import Derived.Test.YtkkjgcpkimjfkaaGs7
namespace Go.Proofs.Ytkkjgcpkimjfkaa
open Go.RowKit

def DrawnG (w : World) (R : Nat) (e : Ending) (w' : World) : Prop :=
  ∃ (P C : Int) (v : Value) (T : List (Value × Gs)), e = .returned (.tuple #[.int .i64 P, .int .i64 C, v]) ∧ DG w' w.heap.size v T ∧ T.length ≤ 4 ∧ w.grownBy w' (some R)

set_option maxHeartbeats 4000000 in
theorem guessing_any (R N : Nat) (n : Int) (hn : 0 ≤ n) (hn2 : n ≤ 1000) (hN : N ≤ 100000) (w : World) (h : RdU w R N w.heap.size) :
    Calls Try.prog 62 #[.pointer (some ⟨R, 0, none⟩), .int .i64 n] w (DrawnG w R) := by
  obtain ⟨B, hB⟩ : ∃ B, B = w.heap.size := ⟨_, rfl⟩
  have HB := Lib.hid hB
  have hR : R < B := by rw [hB]; exact h.1
  rw [← hB] at h
  have HR := Lib.hid hR
  clear hB hR
  go_enter Try.func62, Try.ntmps62
  go_wp2_with fail
  refine (size_any R N (by omega) B w h).mono ?_
  rintro e w1 ⟨p, c, rfl, hp, hp2, hc, hc2, hr1, hg1⟩
  have hs1 : B ≤ w1.heap.size := by rw [HB.out]; exact hg1.size
  clear h
  go_wp2_with fail
  refine (code_u R (N + 2) p c B 0 hp hp2 hc (by omega) (by omega) (by omega) (by omega) w1 hr1 hs1).mono ?_
  rintro e w2 ⟨v0, L0, rfl, hown0, hL0, hr2, hg2⟩
  have hs2 : B ≤ w2.heap.size := Nat.le_trans hs1 hg2.size
  have ho0 : Ow w2 B v0 L0 := (Ow.of_row hown0 (by simp only [maxLen]; omega)).mono hs1
  have G2 := Lib.hid (grownBy_then2 hg1 hg2)
  have O2 := Lib.hid ho0
  have HL0 := Lib.hid hL0
  clear hr1 hg1 hg2 hown0 ho0
  have hA : Below B w2 (w2.alloc (.cells #[] 55)) := (Below.refl _ _).alloc hs2 _
  have D2 := Lib.hid (DG.made w2 B hs2)
  have HA := Lib.hid hA
  have HS2 := Lib.hid hs2
  have hrA := hr2.below hA
  clear hA hr2
  go_wp2_with fail
  refine (pick_u R (N + 2 + 5) 4 (by omega) (by omega) (by omega) _ B hrA).mono ?_
  rintro e w3 ⟨k0, rfl, hk0, hk1, hr3, hg3⟩
  obtain ⟨k0, rfl⟩ := Int.eq_ofNat_of_zero_le hk0
  have R3 := Lib.hid hr3
  have G3 := Lib.hid (grownBy_then2 (grownBy_any (some R) ((Below.refl w2.heap.size w2).alloc (Nat.le_refl _) (.cells #[] 55))) hg3)
  have D3 := Lib.hid (D2.out.reader hg3 HR.out)
  have O3 := Lib.hid (O2.out.grown G3.out (by
    cases hb : blockOf v0 L0 with
    | none => exact .inl rfl
    | some b => right; intro e; injection e with e; have h1 := O2.out.block_ge b hb; have h2 := HR.out; omega))
  have S3 : Hid (∀ b, blockOf v0 L0 = some b → (Value.slice (some ⟨w2.heap.size, 0, none⟩) 0 0).ownBlock ≠ some b) := by
    intro b hb e
    simp [Value.ownBlock] at e
    have := O2.out.rd.block_lt b hb
    omega
  have G3' := Lib.hid (grownBy_then2 G2.out G3.out)
  clear hr3 hg3 hrA D2 HA hk0
  go_wp2_with fail
  go_loopw [10, 11] (fun vl vk wr => ∃ (T : List (Value × Gs)) (k : Nat), k ≤ 3 ∧ vk = .int .i64 k ∧ T.length + k ≤ 3 ∧ Hid (DG wr B vl T) ∧ RdU wr R (N + 8 + 6 * T.length) B ∧ Hid (Ow wr B v0 L0) ∧ Hid (∀ b, blockOf v0 L0 = some b → vl.ownBlock ≠ some b) ∧ Hid (w.grownBy wr (some R))) (fun _ vk _ => (intOf vk).toNat)
  case atStart => exact ⟨[], k0, by omega, rfl, by simp; omega, D3.out, R3.out.more (by simp), O3.out, S3.out, G3'.out⟩
  case round =>
    clear D3 R3 O3 S3 G3' G3 O2 G2 hk1
    obtain ⟨T, k, hk, rfl, hT, HD, hr, HO, HS, HG⟩ := hrel
    have hsz : B ≤ wr.heap.size := by rw [HB.out]; exact HG.out.size
    cases k with
    | zero =>
      go_wp2_with fail
      refine (odd_u R (N + 8 + 6 * T.length) n hn (by omega) (by omega) _ B hr).mono ?_
      rintro e w4 ⟨b, rfl, hr4, hg4⟩
      have D4 := Lib.hid (HD.out.reader hg4 HR.out)
      have G4 := Lib.hid (grownBy_then2 HG.out hg4)
      clear hg4 HD HG hr HO HS
      cases b with
      | false =>
        go_wp2_with fail
        refine bodyPost_ret (v := .tuple #[.int .i64 p, .int .i64 c, u10]) (by simp [results, Try.results62, go_sem]) rfl ?_
        exact ⟨p, c, _, T, rfl, by rw [← HB.out]; exact D4.out, by omega, G4.out⟩
      | true =>
        go_wp2_with fail
        refine (pick_u R (N + 8 + 6 * T.length + 1) 3 (by omega) (by omega) (by omega) _ B hr4).mono ?_
        rintro e w5 ⟨x, rfl, hx0, hx1, hr5, hg5⟩
        have D5 := Lib.hid (D4.out.reader hg5 HR.out)
        have G5 := Lib.hid (grownBy_then2 G4.out hg5)
        have hs5 : B ≤ w5.heap.size := by rw [HB.out]; exact G5.out.size
        have O5 := Lib.hid D5.out.own
        have hT2 : T.length < 1000000 := by omega
        clear hg5 D4 G4 hr4 hr5
        obtain rfl | rfl | rfl : x = 0 ∨ x = 1 ∨ x = 2 := by omega
        · go_wp2_with fail
          refine bodyPost_ret (v := .tuple #[.int .i64 4, .int .i64 c, u10]) (by simp [results, Try.results62, go_sem]) rfl ?_
          exact ⟨4, c, _, T, rfl, by rw [← HB.out]; exact D5.out, by omega, G5.out⟩
        · go_wp2_with fail
          refine bodyPost_ret (v := .tuple #[.int .i64 p, .int .i64 0, u10]) (by simp [results, Try.results62, go_sem]) rfl ?_
          exact ⟨p, 0, _, T, rfl, by rw [← HB.out]; exact D5.out, by omega, G5.out⟩
        · go_wp2_with (first
            | (at_builtin; (refine wpList_append_guess w5 rfl _ _ rfl B _ T (.slice none 0 0, ⟨[], -1, 0⟩) rfl O5.out rfl rfl hT2 hs5 ?_); intro v6 w6 hown6 hg6 hv6))
          have D6 : DG w6 B v6 (T ++ [(.slice none 0 0, ⟨[], -1, 0⟩)]) := D5.out.push (t := (.slice none 0 0, ⟨[], -1, 0⟩)) (Ow.nil _ _ _ _) (fun b hb => by simp [blockOf] at hb) hg6 hown6 hv6
          refine bodyPost_ret (v := .tuple #[.int .i64 p, .int .i64 c, v6]) (by simp [results, Try.results62, go_sem]) rfl ?_
          refine ⟨p, c, _, _, rfl, by rw [← HB.out]; exact D6, by simp; omega, grownBy_own G5.out hg6 (fun b hb => ?_)⟩
          rw [← HB.out]
          exact (D5.out.own.lt b hb).1
    | succ k =>
      go_wp2_with fail
      refine (code_u R (N + 8 + 6 * T.length) p c B 0 hp hp2 hc (by omega) (by omega) (by omega) (by omega) wr hr hsz).mono ?_
      rintro e w4 ⟨v4, L4, rfl, hown4, hL4, hr4, hg4⟩
      have hs4 : B ≤ w4.heap.size := Nat.le_trans hsz hg4.size
      have ho4 : Ow w4 wr.heap.size v4 L4 := Ow.of_row hown4 (by simp only [maxLen]; omega)
      have sp4 : Hid (∀ b, blockOf v4 L4 = some b → u10.ownBlock ≠ some b) := fun b hb e => by
        have h1 := ho4.block_ge b hb
        have h2 := (HD.out.own.lt b e).2
        omega
      have D4 := Lib.hid (HD.out.reader hg4 HR.out)
      have O4 := Lib.hid (HO.out.reader hg4 HR.out)
      have V4 := Lib.hid (ho4.mono hsz)
      have G4 := Lib.hid (grownBy_then2 HG.out hg4)
      clear hg4 HD HO HG hown4 ho4 hr
      go_wp2_with fail
      refine (spec_AnswerTo p c v0 v4 L0 L4 w4 O4.out.rd V4.out.rd).mono ?_
      rintro e w5 ⟨rfl, hb5⟩
      have hrb := RA_bound p c L0 L4 hL0
      generalize RA p c L0 L4 = ra at *
      generalize RB p c L0 L4 = rb at *
      have D5 := Lib.hid (D4.out.below hb5)
      have O5 := Lib.hid (O4.out.below hb5)
      have V5 := Lib.hid (V4.out.below hb5)
      have G5 := Lib.hid (grownBy_then G4.out (hb5.mono G4.out.size))
      have hr5 := hr4.below (hb5.mono hs4)
      have hs5 : B ≤ w5.heap.size := Nat.le_trans hs4 hb5.size
      clear hb5 hr4 D4 O4 V4 G4 hs4
      go_wp2_with fail
      refine (pick_u R (N + 8 + 6 * T.length + 5) 20 (by omega) (by omega) (by omega) _ B hr5).mono ?_
      rintro e w6 ⟨x, rfl, hx0, hx1, hr6, hg6⟩
      obtain ⟨q, hq, hq2, hq0, hq1⟩ : ∃ q : Int, x / 19 = q ∧ x.tdiv 19 = q ∧ 0 ≤ q ∧ q ≤ 1 := by
        refine ⟨x / 19, rfl, ?_, by omega, by omega⟩
        rw [Int.tdiv_eq_ediv_of_nonneg hx0]
      have D6 := Lib.hid (D5.out.reader hg6 HR.out)
      have O6 := Lib.hid (O5.out.reader hg6 HR.out)
      have V6 := Lib.hid (V5.out.reader hg6 HR.out)
      have G6 := Lib.hid (grownBy_then2 G5.out hg6)
      have hs6 : B ≤ w6.heap.size := Nat.le_trans hs5 hg6.size
      have W6 := Lib.hid D6.out.own
      have hT2 : T.length < 1000000 := by omega
      obtain ⟨hrb0, hrb1⟩ := hrb
      obtain ⟨x4, c4, rfl, _, _⟩ := V6.out
      clear hg6 D5 O5 V5 G5 hr5 hs5
      go_wp2_with (first
        | (at_builtin; go_loud (refine wpList_append_guess w6 rfl _ _ rfl B _ T (.slice x4 L4.length c4, ⟨L4, ra + q, rb⟩) rfl W6.out rfl rfl hT2 hs6 ?_); intro v7 w7 hown7 hg7 hv7; have OW7 := Lib.hid hown7; have GR7 := Lib.hid hg7; have HV7 := Lib.hid hv7; clear hown7 hg7 hv7))
      go_roundw
      case rel =>
        have D7 : DG w7 B v7 (T ++ [(.slice x4 L4.length c4, ⟨L4, ra + q, rb⟩)]) := D6.out.push (t := (.slice x4 L4.length c4, ⟨L4, ra + q, rb⟩)) V6.out sp4.out GR7.out OW7.out HV7.out
        have hlow : ∀ b, u10.ownBlock = some b → B ≤ b := fun b hb => (D6.out.own.lt b hb).1
        have hdif : ∀ b, u10.ownBlock = some b → w.heap.size ≤ b := fun b hb => by rw [← HB.out]; exact hlow b hb
        refine ⟨_, k, by omega, by go_num, by simp; omega, D7, (hr6.below (Below.grown (Below.refl _ _) GR7.out hs6 hlow)).more (by simp; omega), O6.out.grown GR7.out ?_, fun b hb e => ?_, grownBy_own G6.out GR7.out hdif⟩
        · cases hb : blockOf v0 L0 with
          | none => exact .inl rfl
          | some b => right; intro e; exact HS.out b hb e.symm
        · rcases HV7.out with e2 | ⟨d, e2, hd⟩
          · exact HS.out b hb (e2.symm.trans e)
          · rw [e2] at e
            injection e with e
            have := O6.out.rd.block_lt b hb
            omega
      case measure => simp [intOf]
end Go.Proofs.Ytkkjgcpkimjfkaa
