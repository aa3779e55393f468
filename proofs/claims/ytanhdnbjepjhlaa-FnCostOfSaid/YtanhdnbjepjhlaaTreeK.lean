/- spec.DepthsOf, the law FnExactDepthsOf. -/
import Derived.Test.YtanhdnbjepjhlaaProg
import Derived.Test.YtanhdnbjepjhlaaTreeI
namespace Go.Proofs.Ytanhdnbjepjhlaa
open Go.RowKit

/-- the scan of the first k bytes -/
def sc (l : List UInt8) (k : Nat) : Int × (UInt8 → Int) := (l.take k).foldl scan (0, fun _ => 0)
theorem sc_succ (s : ByteArray) (k : Nat) (h : k < s.size) : sc s.data.toList (k + 1) = scan (sc s.data.toList k) s[k] := by
  unfold sc
  rw [take_succ_str s k h, List.foldl_append]
  rfl
theorem sc_bd (l : List UInt8) (k : Nat) : -(k : Int) ≤ (sc l k).1 ∧ (sc l k).1 ≤ k := by
  have h := scan_bd (l.take k) (0, fun _ => 0)
  have h2 : (l.take k).length ≤ k := List.length_take_le _ _
  unfold sc
  simp only at h
  omega
theorem text_mem {t : T} (h : t.okL) {c : UInt8} (hc : c ∈ t.text) : c = 40 ∨ c = 41 ∨ c ∈ t.leaves := by
  induction t with
  | leaf d => simp [T.text] at hc; right; right; simp [T.leaves, hc]
  | node a b iha ihb =>
    obtain ⟨ha, hb⟩ := okL_node.1 h
    simp only [T.text, List.mem_cons, List.mem_append] at hc
    rcases hc with h | h | h | h | h
    · exact .inl h
    · rcases iha ha h with h | h | h
      · exact .inl h
      · exact .inr (.inl h)
      · exact .inr (.inr (by simp [T.leaves, h]))
    · rcases ihb hb h with h | h | h
      · exact .inl h
      · exact .inr (.inl h)
      · exact .inr (.inr (by simp [T.leaves, h]))
    · exact .inr (.inl h)
    · cases h

/-- a slice with a row of its own -/
def SPost (L : List Int) (w : World) (e : Ending) (w' : World) : Prop := ∃ v, e = .returned v ∧ Ow w' w.heap.size v L ∧ Below w.heap.size w w'

set_option maxHeartbeats 2000000 in
theorem spec_DepthsOf (n : Int) (s : ByteArray) (hs : s.size ≤ 1048576) (w : World) :
    Calls Try.prog 20 #[.int .i64 n, .string s] w (SPost (DO n s.data.toList) w) := by
  have k1 := Lib.hid (fun w => spec_TreeOk n s hs w)
  have ha : Below w.heap.size w (w.alloc (.cells #[] 3)) := (Below.refl _ _).alloc (Nat.le_refl _) _
  have HA := Lib.hid ha
  cases hto : TO n s.data.toList with
  | none =>
    have hb : TB n s.data.toList = false := by unfold TB; rw [hto]; rfl
    rw [hb] at k1
    rw [DO_none hto]
    clear hto hb ha
    go_enter Try.func20, Try.ntmps20
    go_wp2_with fail
    refine (k1.out _).mono ?_
    rintro e w1 ⟨rfl, hb1⟩
    have HB1 := Lib.hid (HA.out.trans (hb1.mono (by simp)))
    clear hb1
    go_wp2_with fail
    go_ret
    exact ⟨_, rfl, Ow.nil _ _ _ _, HB1.out⟩
  | some t =>
    have hb : TB n s.data.toList = true := by unfold TB; rw [hto]; rfl
    rw [hb] at k1
    rw [DO_some hto]
    obtain ⟨hn, hP, hgood⟩ := TO_some.1 hto
    obtain ⟨n, rfl⟩ := Int.eq_ofNat_of_zero_le (show 0 ≤ n by omega)
    rw [Int.toNat_natCast] at hgood ⊢
    obtain ⟨hn1, hn2⟩ := hn
    have hok := (P_text hP).2
    have htx : s.data.toList = t.text := by have := (P_text hP).1; simpa using this
    obtain ⟨i0, hi, hz0, hz1, hz2⟩ := info_parts YtanhdnbjepjhlaainfoInt
    have HGD := Lib.hid hgood
    have HOK := Lib.hid hok
    have HTX := Lib.hid htx
    clear hto hb ha hP hgood hok htx
    go_enter Try.func20, Try.ntmps20
    go_wp2_with fail
    refine (k1.out _).mono ?_
    rintro e w1 ⟨rfl, hb1⟩
    have HB1 := Lib.hid (HA.out.trans (hb1.mono (by simp)))
    obtain ⟨g, hge⟩ : ∃ g, g = w1.heap.size := ⟨_, rfl⟩
    have HG := Lib.hid hge
    clear hb1 HA hge
    go_wp2_with (first | (at_make; (refine wpList_make_full _ rfl _ _ 23 rfl w1.heap.size 3 i0 (.int .i64 0) 1 Try.underlying23 hi hz0 hz1 .i64 .i64 _ _ n rfl rfl (by omega) (by omega) (by rw [hz2]; omega) (by unfold maxLen; omega) (Nat.le_refl _) ?_); intro w2 hown2 hgrow2))
    have hrow := RowAt.made hown2
    have hb2 := grown_below hgrow2
    rw [← HG.out] at hrow hb2 ⊢
    clear hown2 hgrow2 hi hz0 hz1 hz2
    go_loopw [6, 7] (fun vd v wr => ∃ k : Nat, k ≤ s.size ∧ v = .int .i64 k ∧ vd = .int .i64 (sc s.data.toList k).1 ∧ RowAt wr g n (fun j => (sc s.data.toList k).2 (letter j)) ∧ Below g w1 wr) (fun _ v _ => s.size - (intOf v).toNat)
    case atStart => exact ⟨0, by omega, rfl, rfl, hrow, hb2⟩
    case round =>
      clear hrow hb2
      obtain ⟨k, hk, rfl, rfl, hrow, hb2⟩ := hrel
      by_cases hlt : k < s.size
      · obtain ⟨c, hc⟩ : ∃ c, s[k] = c := ⟨_, rfl⟩
        have hsc := sc_succ s k hlt
        rw [hc] at hsc
        obtain ⟨hd1, hd2⟩ := sc_bd s.data.toList k
        have hmem : c ∈ t.text := by
          rw [← HTX.out, ← hc]
          have : s.data.toList[k]'(by rw [len_str]; exact hlt) ∈ s.data.toList := List.getElem_mem _
          exact this
        have hcase := text_mem HOK.out hmem
        have HSC := Lib.hid hsc
        have HROW := Lib.hid hrow
        obtain ⟨S, hS⟩ : ∃ S, sc s.data.toList k = S := ⟨_, rfl⟩
        have HS := Lib.hid hS
        rw [hS] at hd1 hd2 ⊢
        obtain ⟨d, o⟩ := S
        simp only at hd1 hd2 ⊢
        have hi0 : (0 : Int) ≤ (k : Int) := by omega
        have hi1 : (k : Int) < (s.size : Int) := by omega
        clear hsc hmem hrow hS
        by_cases h40 : c = 40
        · subst h40
          have hne : ((((40 : UInt8).toNat : Nat) : Int) == 40) = true := by decide
          have HN : Hid (sc s.data.toList (k + 1) = (d + 1, o)) := by show _ = _; rw [HSC.out, HS.out]; simp [scan]
          clear hcase
          go_wp2_with fail
          go_roundw
          case rel => exact ⟨k + 1, by omega, by go_num, by rw [HN.out], HROW.out.congr (fun j hj => by rw [HN.out, HS.out]), hb2⟩
          case measure => simp [intOf]; omega
        · have hne : ((c.toNat : Int) == 40) = false := by
            rw [beq_eq_false_iff_ne]; intro h
            exact h40 (u8_num (n := 40) (by omega) (by omega))
          by_cases h41 : c = 41
          · subst h41
            have hne2 : ((((41 : UInt8).toNat : Nat) : Int) == 41) = true := by decide
            have HN : Hid (sc s.data.toList (k + 1) = (d - 1, o)) := by show _ = _; rw [HSC.out, HS.out]; simp [scan]
            clear hcase h40
            go_wp2_with fail
            go_roundw
            case rel => exact ⟨k + 1, by omega, by go_num, by rw [HN.out], HROW.out.congr (fun j hj => by rw [HN.out, HS.out]), hb2⟩
            case measure => simp [intOf]; omega
          · have hne2 : ((c.toNat : Int) == 41) = false := by
              rw [beq_eq_false_iff_ne]; intro h
              exact h41 (u8_num (n := 41) (by omega) (by omega))
            have hin : c ∈ t.leaves := by
              rcases hcase with h | h | h
              · exact absurd h h40
              · exact absurd h h41
              · exact h
            obtain ⟨j, hj, hcj⟩ := good_mem HGD.out (by omega) hin
            have hcn : c.toNat = 97 + j := by rw [hcj, letter_toNat j (by omega)]
            have HN : Hid (sc s.data.toList (k + 1) = (d, fun x => if x = c then d else o x)) := by show _ = _; rw [HSC.out, HS.out]; simp [scan, h40, h41]
            have hw1 : IntKind.u8.wrap ((c.toNat : Int) - 97) = (j : Int) := by rw [hcn]; simp [IntKind.wrap_u8]; omega
            have h97 : (97 : Int) ≤ (c.toNat : Int) := by omega
            have hsub : (c.toNat : Int) - 97 = (j : Int) := by omega
            have hc0 := HROW.out.cell j hj
            have hf0 := HROW.out.free j hj
            rw [HS.out] at hc0
            generalize o (letter j) = z at hc0
            have hj0 : (0 : Int) ≤ (j : Int) := by omega
            have hj1 : (j : Int) < (n : Int) := by omega
            have HCJ := Lib.hid hcj
            clear hcase h40 h41 hin hcj hcn
            go_wp2_with fail
            go_roundw
            case rel =>
              refine ⟨k + 1, by omega, by go_num, by rw [HN.out], (HROW.out.set j _).congr ?_, hb2.setCell (p := ⟨g, j, none⟩) (Nat.le_refl _) _⟩
              intro i hi
              rw [HN.out, HS.out]
              dsimp only
              by_cases e : i = j
              · subst e; rw [if_pos rfl, if_pos HCJ.out.symm]
              · rw [if_neg e, if_neg (fun h => e (letter_inj (by omega) (by omega) (h.trans HCJ.out)))]
            case measure => simp [intOf]; omega
      · have hke : k = s.size := by omega
        have hall : Hid (∀ j, j < n → (sc s.data.toList k).2 (letter j) = (dep t j : Int)) := by
          intro j hj
          unfold sc
          rw [List.take_of_length_le (by rw [len_str]; omega), HTX.out]
          exact scan_all HOK.out HGD.out.2.1 (HGD.out.2.2 j hj)
        have HROW := Lib.hid hrow
        clear hke hrow
        go_wp2_with fail
        go_ret
        refine ⟨_, rfl, Ow.of_at (HROW.out.congr (fun j hj => ?_)) (DL_length n t) (by unfold maxLen; omega) (by rw [HG.out]; exact HB1.out.size), HB1.out.trans (hb2.mono (by rw [HG.out]; exact HB1.out.size))⟩
        rw [hall.out j hj, DL_getD n t j hj]
end Go.Proofs.Ytanhdnbjepjhlaa
