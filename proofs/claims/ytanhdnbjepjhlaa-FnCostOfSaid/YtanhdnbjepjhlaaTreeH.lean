/- spec.TreeOk. -/
import Derived.Test.YtanhdnbjepjhlaaProg
import Derived.Test.YtanhdnbjepjhlaaTreeC
namespace Go.Proofs.Ytanhdnbjepjhlaa
open Go.RowKit

theorem take_succ_str (s : ByteArray) (k : Nat) (h : k < s.size) : s.data.toList.take (k + 1) = s.data.toList.take k ++ [s[k]] := by
  rw [List.take_succ_eq_append_getElem (by rw [len_str]; exact h)]
  rfl
theorem many_snoc (c d : UInt8) (l : List UInt8) : many c (l ++ [d]) = many c l + if d = c then 1 else 0 := by
  unfold many
  rw [List.countP_append]
  by_cases h : d = c <;> simp [h]
def lows (l : List UInt8) : Nat := l.countP low
theorem lows_snoc (d : UInt8) (l : List UInt8) : lows (l ++ [d]) = lows l + if low d = true then 1 else 0 := by
  unfold lows
  rw [List.countP_append]
  by_cases h : low d = true <;> simp [h]
theorem lows_le (l : List UInt8) : lows l ≤ l.length := List.countP_le_length
theorem many_le (c : UInt8) (l : List UInt8) : many c l ≤ l.length := List.countP_le_length
theorem lows_text (t : T) (h : t.okL) : lows t.text = t.leaves.length := by
  unfold lows
  rw [List.countP_eq_length_filter, filter_low t h]

theorem TO_end {n : Int} {s : ByteArray} {t : T} (h : TO n s.data.toList = some t) : endI s.data.toList 0 = (s.size : Int) := by
  have h1 := (TO_some.1 h).2.1
  obtain ⟨e1, _, e3⟩ := endI_some (s := s.data.toList) (i := 0) (by rw [List.drop_zero]; exact h1)
  rw [e1]
  rw [len_str] at e3
  simp at e3 ⊢
  omega
theorem end_tree {s : ByteArray} (h : endI s.data.toList 0 = (s.size : Int)) : ∃ t, P s.data.toList = some (t, []) := by
  cases h1 : P s.data.toList with
  | none =>
    rw [endI_none (by rw [List.drop_zero]; exact h1)] at h
    omega
  | some x =>
    obtain ⟨t, r⟩ := x
    obtain ⟨e1, _, e3⟩ := endI_some (s := s.data.toList) (i := 0) (by rw [List.drop_zero]; exact h1)
    rw [h] at e1
    rw [len_str] at e3
    have : r = [] := List.eq_nil_of_length_eq_zero (by omega)
    subst this
    exact ⟨t, rfl⟩

def TB (n : Int) (l : List UInt8) : Bool := (TO n l).isSome
theorem TB_no {n : Int} {l : List UInt8} (h : ∀ t, TO n l ≠ some t) : TB n l = false := by
  unfold TB
  cases e : TO n l with
  | none => rfl
  | some t => exact absurd e (h t)
def BPost (b : Bool) (w : World) (e : Ending) (w' : World) : Prop := e = .returned (.bool b) ∧ Below w.heap.size w w'

set_option maxHeartbeats 4000000 in
theorem spec_TreeOk (n : Int) (s : ByteArray) (hs : s.size ≤ 1048576) (w : World) :
    Calls Try.prog 19 #[.int .i64 n, .string s] w (BPost (TB n s.data.toList) w) := by
  by_cases hn : 1 ≤ n ∧ n ≤ 9
  · have k1 := Lib.hid (fun w => l1End_any (s.size + 1) s 0 0 w rfl (by omega) (by omega) (by omega))
    obtain ⟨hn1, hn2⟩ := hn
    obtain ⟨E, hE⟩ : ∃ E, endI s.data.toList 0 = E := ⟨_, rfl⟩
    rw [hE] at k1
    by_cases he : E = (s.size : Int)
    · obtain ⟨n, rfl⟩ := Int.eq_ofNat_of_zero_le (show 0 ≤ n by omega)
      obtain ⟨t, ht⟩ := end_tree (hE.trans he)
      have hb : (E != (s.size : Int)) = false := by simp [he]
      have HE := Lib.hid hE
      have HT := Lib.hid ht
      clear hE he ht
      obtain ⟨i0, hi, hz0, hz1, hz2⟩ := info_parts YtanhdnbjepjhlaainfoInt
      obtain ⟨g, hg⟩ : ∃ g, g = w.heap.size := ⟨_, rfl⟩
      have HG := Lib.hid hg
      clear hg
      go_enter Try.func19, Try.ntmps19
      go_wp2_with (first
        | (go_at_call 29; refine (l1In_yes _ _ _ _ (by omega) (by omega)).mono ?_; rintro e w' ⟨rfl, rfl⟩)
        | (go_at_call 30; (with_reducible refine (k1.out _).mono ?_); rintro e w' ⟨rfl, rfl⟩)
        | (at_make; (refine wpList_make_full _ rfl _ _ 23 rfl w.heap.size 3 i0 (.int .i64 0) 1 Try.underlying23 hi hz0 hz1 .i64 .i64 _ _ 26 rfl rfl (by omega) (by omega) (by rw [hz2]; omega) (by unfold maxLen; omega) (Nat.le_refl _) ?_); intro w2 hown2 hgrow2))
      have hrow := RowAt.made hown2
      have hbel := grown_below hgrow2
      rw [← HG.out] at hrow hbel ⊢
      clear hown2 hgrow2 hi hz0 hz1 hz2 hb k1
      go_loopw [6, 7] (fun vm v wr => ∃ k : Nat, k ≤ s.size ∧ v = .int .i64 k ∧ vm = .int .i64 (lows (s.data.toList.take k) : Nat) ∧ RowAt wr g 26 (fun j => (many (letter j) (s.data.toList.take k) : Nat)) ∧ Below g w wr) (fun _ v _ => s.size - (intOf v).toNat)
      case atStart => exact ⟨0, by omega, rfl, rfl, hrow.congr (fun j _ => by simp [many]), hbel⟩
      case round =>
        clear hrow hbel
        obtain ⟨k, hk, rfl, rfl, hrow, hbel⟩ := hrel
        by_cases hlt : k < s.size
        · obtain ⟨c, hc⟩ : ∃ c, s[k] = c := ⟨_, rfl⟩
          have htk := take_succ_str s k hlt
          rw [hc] at htk
          have hlo1 := lows_snoc c (s.data.toList.take k)
          rw [← htk] at hlo1
          have hma := fun j => many_snoc (letter j) c (s.data.toList.take k)
          rw [← htk] at hma
          have hlb : lows (s.data.toList.take k) ≤ k := Nat.le_trans (lows_le _) (List.length_take_le _ _)
          have hmb : ∀ j, many (letter j) (s.data.toList.take k) ≤ k := fun j => Nat.le_trans (many_le _ _) (List.length_take_le _ _)
          have HL := Lib.hid hlo1
          have HMA := Lib.hid hma
          have HMB := Lib.hid hmb
          have hi0 : (0 : Int) ≤ (k : Int) := by omega
          have hi1 : (k : Int) < (s.size : Int) := by omega
          clear htk hlo1 hma hmb
          by_cases hl : low c = true
          · obtain ⟨j, hj, hcj⟩ := low_letter hl
            have hcn : c.toNat = 97 + j := by rw [hcj, letter_toNat j hj]
            have h97 : (97 : Int) ≤ (c.toNat : Int) := by omega
            have h122 : (c.toNat : Int) ≤ 122 := by omega
            have hc0 := hrow.cell j hj
            have hf0 := hrow.free j hj
            have hmb := HMB.out j
            obtain ⟨m, hm⟩ : ∃ m, many (letter j) (s.data.toList.take k) = m := ⟨_, rfl⟩
            obtain ⟨q, hq⟩ : ∃ q, lows (s.data.toList.take k) = q := ⟨_, rfl⟩
            rw [hm] at hc0 hmb
            rw [hq] at hlb ⊢
            have hw1 : IntKind.u8.wrap ((c.toNat : Int) - 97) = (j : Int) := by rw [hcn]; simp [IntKind.wrap_u8]; omega
            have hw2 : IntKind.i64.wrap (j : Int) = (j : Int) := IntWalk.i64_in _ (by omega)
            have hw3 : IntKind.i64.wrap ((m : Int) + 1) = (m : Int) + 1 := IntWalk.i64_in _ (by omega)
            have hj0 : (0 : Int) ≤ (j : Int) := by omega
            have hj1 : (j : Int) < 26 := by omega
            have HM := Lib.hid hm
            have HQ := Lib.hid hq
            have HCJ := Lib.hid hcj
            have HLO := Lib.hid hl
            have HROW := Lib.hid hrow
            clear hcn hm hq hcj hl hrow
            go_wp2_with fail
            go_region
            all_goals go_wp2_with fail
            go_roundw
            case rel =>
              refine ⟨k + 1, by omega, by go_num, by rw [HL.out, HQ.out, if_pos HLO.out]; go_num, ?_, ?_⟩
              · refine RowAt.congr (f := fun i => if i = j then (m : Int) + 1 else (many (letter i) (s.data.toList.take k) : Nat)) ?_ ?_
                · exact HROW.out.set j ((m : Int) + 1)
                · intro i hi
                  rw [HMA.out i]
                  by_cases e : i = j
                  · subst e; rw [if_pos rfl, HM.out, if_pos HCJ.out]; simp
                  · rw [if_neg e, if_neg (fun h => e (letter_inj hi hj (h.symm.trans HCJ.out)))]; simp
              · exact (hbel.setCell (p := ⟨g, j, none⟩) (Nat.le_refl _) _).drew
            case measure => simp [intOf]; omega
          · have hl2 : low c = false := by simpa using hl
            have hl' := of_decide_eq_false hl2
            have HLO := Lib.hid hl2
            have HR2 : Hid (∀ i, i < 26 → many (letter i) (s.data.toList.take k) = many (letter i) (s.data.toList.take (k + 1))) := by
              intro i hi
              rw [HMA.out i, if_neg (fun h => by rw [h, letter_low i hi] at hl; exact hl rfl)]
              rfl
            have HROW := Lib.hid hrow
            obtain ⟨q, hq⟩ : ∃ q, lows (s.data.toList.take k) = q := ⟨_, rfl⟩
            rw [hq] at hlb ⊢
            have HQ := Lib.hid hq
            clear hrow hl hl2 hq
            by_cases h97 : (c.toNat : Int) < 97
            · clear hl'
              go_wp2_with fail
              go_roundw
              case rel => exact ⟨k + 1, by omega, by go_num, by rw [HL.out, HQ.out, if_neg (by rw [HLO.out]; simp)]; rfl, HROW.out.congr (fun i hi => by rw [HR2.out i hi]), hbel⟩
              case measure => simp [intOf]; omega
            · have h122 : 122 < (c.toNat : Int) := by omega
              have h97' : 97 ≤ (c.toNat : Int) := by omega
              clear hl' h97
              go_wp2_with fail
              go_roundw
              case rel => exact ⟨k + 1, by omega, by go_num, by rw [HL.out, HQ.out, if_neg (by rw [HLO.out]; simp)]; rfl, HROW.out.congr (fun i hi => by rw [HR2.out i hi]), hbel⟩
              case measure => simp [intOf]; omega
        · have hke : k = s.size := by omega
          have htake : s.data.toList.take k = s.data.toList := List.take_of_length_le (by rw [len_str]; omega)
          rw [htake] at hrow ⊢
          have hok := (P_text HT.out).2
          have htx : s.data.toList = t.text := by have := (P_text HT.out).1; simpa using this
          have hlows : lows s.data.toList = t.leaves.length := by rw [htx, lows_text t hok]
          have hmany : ∀ i, i < 26 → many (letter i) s.data.toList = many (letter i) t.leaves := fun i hi => by rw [many_filter (letter_low i hi), htx, filter_low t hok]
          rw [hlows]
          have hrow2 : RowAt wr g 26 (fun j => (many (letter j) t.leaves : Nat)) := hrow.congr (fun i hi => by rw [hmany i hi])
          have hlen : t.leaves.length ≤ 1048576 := by rw [← hlows]; exact Nat.le_trans (lows_le _) (by rw [len_str]; omega)
          have hiff : TB n s.data.toList = true ↔ ((∀ i, i < n → many (letter i) t.leaves = 1) ∧ t.leaves.length = n) := by
            constructor
            · intro h
              unfold TB at h
              cases e : TO n s.data.toList with
              | none => rw [e] at h; cases h
              | some t' =>
                obtain ⟨_, h2, h3⟩ := TO_some.1 e
                rw [HT.out] at h2
                injection h2 with h2
                injection h2 with h2 _
                subst h2
                rw [Int.toNat_natCast] at h3
                exact ⟨fun i hi => counts_of_good h3 i hi, h3.1⟩
            · rintro ⟨h1, h2⟩
              have := good_of_counts t n (by omega) h1 h2
              unfold TB
              rw [TO_some.2 ⟨by omega, HT.out, by simpa using this⟩]
              rfl
          have HIFF := Lib.hid hiff
          have HBEL := Lib.hid hbel
          clear hrow htake hok htx hlows hmany hiff hbel hke
          go_wp2_with fail
          go_loop [8] (fun v => ∃ i : Nat, i ≤ n ∧ v = .int .i64 i ∧ Hid (∀ j, j < i → many (letter j) t.leaves = 1)) (fun v => n - (intOf v).toNat)
          case atStart => exact ⟨0, by omega, rfl, fun j hj => by omega⟩
          case round =>
            obtain ⟨i, hi, rfl, hall⟩ := hrel
            by_cases hlt2 : i < n
            · have hc0 := hrow2.cell i (by omega)
              have hi0 : (0 : Int) ≤ (i : Int) := by omega
              have hi1 : (i : Int) < 26 := by omega
              by_cases h1 : many (letter i) t.leaves = 1
              · have hall2 : Hid (∀ j, j < i + 1 → many (letter j) t.leaves = 1) := fun j hj => by
                  by_cases e : j = i
                  · subst e; exact h1
                  · exact hall.out j (by omega)
                rw [h1] at hc0
                clear h1 hall
                go_wp2_with fail
                go_round
                case rel => exact ⟨i + 1, by omega, by go_num, hall2⟩
                case measure => simp [intOf]; omega
              · have hm1 : ((many (letter i) t.leaves : Int) != 1) = true := by rw [bne_iff_ne]; omega
                have hres : Hid (TB n s.data.toList = false) := by
                  show _ = _
                  rw [Bool.eq_false_iff]
                  intro h
                  exact h1 ((HIFF.out.1 h).1 i hlt2)
                generalize many (letter i) t.leaves = m at hc0 hm1
                clear h1 hall
                go_wp2_with fail
                go_ret
                exact ⟨ret_bool hres.out.symm, HBEL.out.mono (Nat.le_of_eq HG.out.symm)⟩
            · have hie : i = n := by omega
              have hres : Hid (TB n s.data.toList = decide (t.leaves.length = n)) := by
                show _ = _
                rw [Bool.eq_iff_iff, decide_eq_true_iff, HIFF.out]
                exact ⟨fun h => h.2, fun h => ⟨fun j hj => hall.out j (by omega), h⟩⟩
              clear hie hall
              go_wp2_with fail
              go_ret
              exact ⟨ret_bool (by rw [hres.out, Bool.eq_iff_iff]; simp; omega), HBEL.out.mono (Nat.le_of_eq HG.out.symm)⟩
    · have hb : (E != (s.size : Int)) = true := by rw [bne_iff_ne]; exact he
      have e : TB n s.data.toList = false := TB_no (fun t h => he (hE.symm.trans (TO_end h)))
      rw [e]
      clear e he hE
      go_enter Try.func19, Try.ntmps19
      go_wp2_with (first
        | (go_at_call 29; refine (l1In_yes _ _ _ _ (by omega) (by omega)).mono ?_; rintro e w' ⟨rfl, rfl⟩)
        | (go_at_call 30; (with_reducible refine (k1.out _).mono ?_); rintro e w' ⟨rfl, rfl⟩))
      go_ret
      exact ⟨rfl, Below.refl _ _⟩
  · have e : TB n s.data.toList = false := TB_no (fun t h => hn (TO_some.1 h).1)
    rw [e]
    clear e
    go_enter Try.func19, Try.ntmps19
    go_wp2_with (first | (go_at_call 29; refine (l1In_no _ _ _ _ (by omega)).mono ?_; rintro e w' ⟨rfl, rfl⟩))
    go_ret
    exact ⟨rfl, Below.refl _ _⟩
end Go.Proofs.Ytanhdnbjepjhlaa
