/- Where a tree ends in a text (spec.l1End); a prefix cut off; the copy of a slice, as a row. -/
import Derived.Test.YtanhdnbjepjhlaaProg
import Derived.Test.YtanhdnbjepjhlaaSlices
import Derived.Test.YtanhdnbjepjhlaaTreeB
import Derived.WalkSpells
namespace Go.Proofs.Ytanhdnbjepjhlaa
open Go.RowKit

theorem drop_str (s : ByteArray) (i : Nat) (h : i < s.size) : s.data.toList.drop i = s[i] :: s.data.toList.drop (i + 1) := by
  rw [List.drop_eq_getElem_cons (by simpa using h)]
  rfl
theorem len_str (s : ByteArray) : s.data.toList.length = s.size := by cases s; rfl
theorem drop_end (s : ByteArray) (i : Nat) (h : ¬ i < s.size) : s.data.toList.drop i = [] := List.drop_eq_nil_of_le (by rw [len_str]; omega)
theorem u8_num {c : UInt8} {n : Nat} (h : c.toNat = n) (hn : n < 256) : c = UInt8.ofNat n := by
  apply UInt8.toNat_inj.1
  rw [h, UInt8.toNat_ofNat']
  omega

set_option maxHeartbeats 1000000 in
theorem l1End_any (f : Nat) : ∀ (s : ByteArray) (i : Nat) (a : Int) (w : World), a = (i : Nat) → s.size ≤ 1000000000 → s.size - i < f → i ≤ 1000000001 →
    Calls Try.prog 30 #[.string s, .int .i64 a] w fun e w' => e = .returned (.int .i64 (endI s.data.toList i)) ∧ w = w' := by
  induction f with
  | zero => intro s i a w _ _ h; omega
  | succ f ih =>
    intro s i a w ha hs hf hi
    subst ha
    have IH := Lib.hid ih
    clear ih
    by_cases hlt : i < s.size
    · have hd := drop_str s i hlt
      obtain ⟨c, hc⟩ : ∃ c, s[i] = c := ⟨_, rfl⟩
      rw [hc] at hd
      by_cases hl : low c = true
      · have e := (endI_some (by rw [hd]; exact P_low hl _) : _ ∧ _ ∧ _).1
        rw [e]
        have hl' := of_decide_eq_true hl
        obtain ⟨h97, h122⟩ : (97 : Int) ≤ (c.toNat : Int) ∧ (c.toNat : Int) ≤ 122 := by omega
        clear hd e hl hl' IH
        go_enter Try.func30, Try.ntmps30
        go_wp2_with fail
        go_ret
        exact ⟨ret_int (by simp [T.text]), rfl⟩
      · have hl2 : low c = false := by simpa using hl
        have hl' := of_decide_eq_false hl2
        by_cases h40 : c = 40
        · subst h40
          have HD := Lib.hid hd
          clear hd hl hl2 hl'
          have k1 := fun w => IH.out s (i + 1) ((i : Int) + 1) w (by omega) hs (by omega) (by omega)
          cases h1 : P (s.data.toList.drop (i + 1)) with
          | none =>
            have e : endI s.data.toList i = -1 := endI_none (by rw [HD.out]; exact P_open0 h1)
            rw [e]
            rw [endI_none h1] at k1
            have K1 := Lib.hid k1
            clear k1 h1 e IH
            go_enter Try.func30, Try.ntmps30
            go_wp2_with (first | (go_at_call 30; (with_reducible refine (K1.out _).mono ?_); rintro e w' ⟨rfl, rfl⟩))
            go_ret
            exact ⟨rfl, rfl⟩
          | some x =>
            obtain ⟨ta, r1⟩ := x
            obtain ⟨e1, e2, e3⟩ := endI_some h1
            have hp := text_pos ta
            rw [e1] at k1
            obtain ⟨m, hm⟩ : ∃ m, m = i + 1 + ta.text.length := ⟨_, rfl⟩
            rw [← hm] at k1 e2 e3
            rw [len_str] at e3
            have k2 := fun w => IH.out s m (m : Int) w rfl hs (by omega) (by omega)
            have K1 := Lib.hid k1
            have HE2 := Lib.hid e2
            clear k1 e1 e2 IH
            have hm1 : i + 2 ≤ m := by omega
            have HM := Lib.hid hm
            have hm2 : m ≤ s.size := by omega
            clear hm e3
            cases h2 : P (s.data.toList.drop m) with
            | none =>
              have e : endI s.data.toList i = -1 := endI_none (by rw [HD.out]; exact P_open1 h1 (by rw [← HE2.out]; exact h2))
              rw [e]
              rw [endI_none h2] at k2
              have K2 := Lib.hid k2
              clear k2 h1 h2 e
              go_enter Try.func30, Try.ntmps30
              go_wp2_with (first | (go_at_call 30; (with_reducible refine (K1.out _).mono ?_); rintro e w' ⟨rfl, rfl⟩) | (go_at_call 30; (with_reducible refine (K2.out _).mono ?_); rintro e w' ⟨rfl, rfl⟩))
              go_ret
              exact ⟨rfl, rfl⟩
            | some y =>
              obtain ⟨tb, r2⟩ := y
              obtain ⟨e1, e2, e3⟩ := endI_some h2
              have hp2 := text_pos tb
              rw [e1] at k2
              obtain ⟨n, hn⟩ : ∃ n, n = m + tb.text.length := ⟨_, rfl⟩
              rw [← hn] at k2 e2 e3
              rw [len_str] at e3
              have K2 := Lib.hid k2
              have h2' := h2
              rw [HE2.out] at h2'
              have hn2 : n ≤ s.size := by omega
              have hn1 : m + 1 ≤ n := by omega
              clear k2 e1
              by_cases hn3 : n < s.size
              · have hdn := drop_str s n hn3
                obtain ⟨d, hdc⟩ : ∃ d, s[n] = d := ⟨_, rfl⟩
                rw [hdc, e2] at hdn
                rw [hdn] at h2'
                by_cases h41 : d = 41
                · subst h41
                  have e : endI s.data.toList i = ((n + 1 : Nat) : Int) := by
                    have := (endI_some (by rw [HD.out, P_open3 h1 h2', if_pos rfl] : P (s.data.toList.drop i) = some (.node ta tb, _))).1
                    rw [this]
                    have hmo := HM.out
                    simp [T.text]
                    omega
                  rw [e]
                  have HE := Lib.hid e2
                  have HN := Lib.hid hn
                  clear e e2 hn h1 h2 h2' hdn HE2 HD e3
                  go_enter Try.func30, Try.ntmps30
                  go_wp2_with (first | (go_at_call 30; (with_reducible refine (K1.out _).mono ?_); rintro e w' ⟨rfl, rfl⟩) | (go_at_call 30; (with_reducible refine (K2.out _).mono ?_); rintro e w' ⟨rfl, rfl⟩))
                  go_ret
                  exact ⟨ret_int (by omega), rfl⟩
                · have e : endI s.data.toList i = -1 := endI_none (by rw [HD.out, P_open3 h1 h2', if_neg h41])
                  rw [e]
                  have hne : ((d.toNat : Int) != 41) = true := by
                    rw [bne_iff_ne]; intro h
                    exact h41 (u8_num (n := 41) (by omega) (by omega))
                  have HN := Lib.hid hn
                  clear e e2 hn h1 h2 h2' hdn HE2 HD e3 h41
                  go_enter Try.func30, Try.ntmps30
                  go_wp2_with (first | (go_at_call 30; (with_reducible refine (K1.out _).mono ?_); rintro e w' ⟨rfl, rfl⟩) | (go_at_call 30; (with_reducible refine (K2.out _).mono ?_); rintro e w' ⟨rfl, rfl⟩))
                  go_ret
                  exact ⟨rfl, rfl⟩
              · have hr2 : r2 = [] := by rw [← e2]; exact drop_end s n hn3
                rw [hr2] at h2'
                have e : endI s.data.toList i = -1 := endI_none (by rw [HD.out]; exact P_open2 h1 h2')
                rw [e]
                have HN := Lib.hid hn
                clear e e2 hn h1 h2 h2' hr2 HE2 HD e3
                go_enter Try.func30, Try.ntmps30
                go_wp2_with (first | (go_at_call 30; (with_reducible refine (K1.out _).mono ?_); rintro e w' ⟨rfl, rfl⟩) | (go_at_call 30; (with_reducible refine (K2.out _).mono ?_); rintro e w' ⟨rfl, rfl⟩))
                go_ret
                exact ⟨rfl, rfl⟩
        · have e : endI s.data.toList i = -1 := endI_none (by rw [hd]; exact P_bad hl2 h40 _)
          rw [e]
          have hne : ((c.toNat : Int) != 40) = true := by
            rw [bne_iff_ne]; intro h
            exact h40 (u8_num (n := 40) (by omega) (by omega))
          by_cases h97 : (c.toNat : Int) < 97
          · clear hd e hl hl2 hl' h40 IH
            go_enter Try.func30, Try.ntmps30
            go_wp2_with fail
            go_ret
            exact ⟨rfl, rfl⟩
          · have h122 : 122 < (c.toNat : Int) := by omega
            have h97' : 97 ≤ (c.toNat : Int) := by omega
            clear hd e hl hl2 hl' h40 h97 IH
            go_enter Try.func30, Try.ntmps30
            go_wp2_with fail
            go_ret
            exact ⟨rfl, rfl⟩
    · have e : endI s.data.toList i = -1 := endI_none (by rw [drop_end s i hlt]; exact P_nil)
      rw [e]
      clear e IH
      go_enter Try.func30, Try.ntmps30
      go_wp2_with fail
      go_ret
      exact ⟨rfl, rfl⟩
end Go.Proofs.Ytanhdnbjepjhlaa
