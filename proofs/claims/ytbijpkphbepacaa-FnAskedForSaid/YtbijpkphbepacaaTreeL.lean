/- AskedFor, both. -/
import Derived.Test.YtbijpkphbepacaaProg
import Derived.Test.YtbijpkphbepacaaTreeK
namespace Go.Proofs.Ytbijpkphbepacaa
open Go.RowKit

/-- what AskedFor returns -/
def AF (n : Int) (l : List UInt8) (k : Int) : List Int :=
  match TO n l with
  | some t => if 0 ≤ k ∧ k ≤ n - 1 then ask t (letter k.toNat) else []
  | none => []
theorem AF_none {n k : Int} {l : List UInt8} (h : TO n l = none) : AF n l k = [] := by unfold AF; rw [h]
theorem AF_out {n k : Int} {l : List UInt8} (h : ¬ (0 ≤ k ∧ k ≤ n - 1)) : AF n l k = [] := by
  unfold AF
  split
  · rw [if_neg h]
  · rfl
theorem AF_some {n k : Int} {l : List UInt8} {t : T} (h : TO n l = some t) (hk : 0 ≤ k ∧ k ≤ n - 1) : AF n l k = ask t (letter k.toNat) := by unfold AF; rw [h]; exact if_pos hk

theorem owns_S {w w' : World} {v : Value} {L : List Int} {base : Nat} (h : w'.ownsRow base 3 1 v L.length (L.map (Value.int .i64))) (hb : w.heap.size ≤ base) (hl : L.length ≤ 1000000) (b : Below w.heap.size w w') : SPost L w (.returned v) w' :=
  ⟨v, rfl, (Ow.of_row h (by simp only [maxLen]; omega)).mono hb, b⟩

set_option maxHeartbeats 1000000 in
theorem impl_AskedFor (n k : Int) (s : ByteArray) (hs : s.size ≤ 1048576) (w : World) :
    Calls Try.prog 18 #[.int .i64 n, .string s, .int .i64 k] w (SPost (AF n s.data.toList k) w) := by
  have k1 := Lib.hid (treeOf_any n s hs w)
  go_enter Try.func18, Try.ntmps18
  go_wp2_with fail
  refine k1.out.mono ?_
  rintro e w1 ⟨hbel, ⟨h1, rfl⟩ | ⟨t, g, h1, rfl, hg, hg2, hrd⟩⟩
  · have HE := Lib.hid (AF_none (k := k) h1)
    have HBEL := Lib.hid hbel
    clear h1 hbel
    go_wp2_with fail
    go_ret
    rw [HE.out]
    exact ⟨_, rfl, Ow.nil _ _ _ _, HBEL.out⟩
  · have hn := (TO_some.1 h1).1
    obtain ⟨n, rfl⟩ := Int.eq_ofNat_of_zero_le (show 0 ≤ n by omega)
    rw [Int.toNat_natCast] at hrd ⊢
    obtain ⟨hn1, hn2⟩ := hn
    have hgood := (TO_some.1 h1).2.2
    rw [Int.toNat_natCast] at hgood
    by_cases hk : 0 ≤ k ∧ k ≤ (n : Int) - 1
    · obtain ⟨i, rfl⟩ := Int.eq_ofNat_of_zero_le hk.1
      have he := AF_some h1 hk
      rw [Int.toNat_natCast] at he
      obtain ⟨v, hv, hr⟩ := hrd i (by omega)
      have hlen := ask_len t (letter i)
      rw [hgood.1] at hlen
      have HR := Lib.hid hr
      have HBEL := Lib.hid hbel
      obtain ⟨va, vc, rfl, _⟩ := hr
      obtain ⟨L, hL⟩ : ∃ L, ask t (letter i) = L := ⟨_, rfl⟩
      rw [hL] at HR hv hlen he
      have HE := Lib.hid he
      obtain ⟨hk0, hk1⟩ := hk
      have hi1 : (i : Int) < (n : Int) := by omega
      clear h1 hbel hrd hgood hL he
      go_wp2_with (first | (go_at_call 41; refine (in_yes _ _ _ _ (by omega) (by omega)).mono ?_; rintro e w' ⟨rfl, rfl⟩))
      refine (clone_owns _ L _ HR.out (by omega)).mono ?_
      rintro e w2 ⟨u, rfl, hown, hb2⟩
      have HO := Lib.hid hown
      have HB2 := Lib.hid hb2
      clear hown hb2
      go_wp2_with fail
      go_ret
      rw [HE.out]
      exact owns_S HO.out HBEL.out.size (by omega) (HBEL.out.trans (HB2.out.mono HBEL.out.size))
    · have HE := Lib.hid (AF_out (l := s.data.toList) hk)
      have HBEL := Lib.hid hbel
      have hk' : k < 0 ∨ (n : Int) - 1 < k := by omega
      clear h1 hbel hrd hgood hk
      go_wp2_with (first | (go_at_call 41; refine (in_no _ _ _ _ (by omega)).mono ?_; rintro e w' ⟨rfl, rfl⟩))
      go_ret
      rw [HE.out]
      exact ⟨_, rfl, Ow.nil _ _ _ _, HBEL.out⟩

theorem str_at {s : ByteArray} {i j : Nat} {l r : List UInt8} (h : s.data.toList.drop i = l ++ r) (hj : j < l.length) : ∃ h' : i + j < s.size, s[i + j]'h' = l[j] := by
  have hl : i + j < s.data.toList.length := by
    have : (s.data.toList.drop i).length = l.length + r.length := by rw [h]; simp
    simp at this
    rw [len_str]
    have := len_str s
    simp at this
    omega
  refine ⟨by rw [← len_str]; exact hl, ?_⟩
  have e1 : (s.data.toList.drop i)[j]? = some l[j] := by rw [h, List.getElem?_append_left hj, List.getElem?_eq_getElem hj]
  rw [List.getElem?_drop, List.getElem?_eq_getElem hl] at e1
  injection e1
theorem mem_text {t : T} (h : t.okL) {c : UInt8} (hc : low c = true) : c ∈ t.text ↔ c ∈ t.leaves := by
  rw [← filter_low t h, List.mem_filter]
  simp [hc]

/-- where the search stands -/
def At (s : ByteArray) (t : T) (c : UInt8) (i : Nat) (ans : List Int) (t' : T) : Prop :=
  (∃ r, s.data.toList.drop i = t'.text ++ r) ∧ c ∈ t'.leaves ∧ t'.leaves.Nodup ∧ t'.okL ∧ ask t c = ans ++ ask t' c

set_option maxHeartbeats 4000000 in
theorem spec_AskedFor (n k : Int) (s : ByteArray) (hs : s.size ≤ 1048576) (w : World) :
    Calls Try.prog 17 #[.int .i64 n, .string s, .int .i64 k] w (SPost (AF n s.data.toList k) w) := by
  have k1 := Lib.hid (fun w => spec_TreeOk n s hs w)
  have ha : Below w.heap.size w (w.alloc (.cells #[] 3)) := (Below.refl _ _).alloc (Nat.le_refl _) _
  have HA := Lib.hid ha
  cases hto : TO n s.data.toList with
  | none =>
    have hb : TB n s.data.toList = false := by unfold TB; rw [hto]; rfl
    rw [hb] at k1
    rw [AF_none hto]
    clear hto hb ha
    go_enter Try.func17, Try.ntmps17
    go_wp2_with fail
    refine (k1.out _).mono ?_
    rintro e w1 ⟨rfl, hb1⟩
    have HB1 := Lib.hid (HA.out.trans (hb1.mono (by simp)))
    clear hb1
    go_wp2_with fail
    go_ret
    exact ⟨_, rfl, Ow.nil _ _ _ _, HB1.out⟩
  | some t =>
    have hb : TB n s.data.toList = true := by unfold TB; rw [hto]; rfl
    rw [hb] at k1
    obtain ⟨hn, hP, hgood⟩ := TO_some.1 hto
    obtain ⟨n, rfl⟩ := Int.eq_ofNat_of_zero_le (show 0 ≤ n by omega)
    rw [Int.toNat_natCast] at hgood
    obtain ⟨hn1, hn2⟩ := hn
    by_cases hk : 0 ≤ k ∧ k ≤ (n : Int) - 1
    · rw [AF_some hto hk]
      obtain ⟨i, rfl⟩ := Int.eq_ofNat_of_zero_le hk.1
      rw [Int.toNat_natCast]
      have hin : i < n := by omega
      obtain ⟨hk0, hk1⟩ := hk
      have hok := (P_text hP).2
      have htx : s.data.toList = t.text ++ [] := (P_text hP).1
      obtain ⟨c, hc⟩ : ∃ c, letter i = c := ⟨_, rfl⟩
      have hcn : c.toNat = 97 + i := by rw [← hc, letter_toNat i (by omega)]
      have hcl : low c = true := by rw [← hc]; exact letter_low i (by omega)
      have hcm : c ∈ t.leaves := by rw [← hc]; exact hgood.2.2 i hin
      have hal := ask_len t c
      rw [hgood.1] at hal
      rw [hc]
      have hat : At s t c 0 [] t := ⟨⟨[], by rw [List.drop_zero]; exact htx⟩, hcm, hgood.2.1, hok, rfl⟩
      have HAT := Lib.hid hat
      have HCL := Lib.hid hcl
      have hci : (97 : Int) + (i : Int) = (c.toNat : Int) := by omega
      clear hto hb ha hP hgood hok htx hc hcn hcl hcm hat
      go_enter Try.func17, Try.ntmps17
      go_wp2_with fail
      refine (k1.out _).mono ?_
      rintro e w1 ⟨rfl, hb1⟩
      have HO1 := Lib.hid (owns_below (show (w.alloc (.cells #[] 3)).ownsRow w.heap.size 3 1 (.slice (some ⟨w.heap.size, 0, none⟩) 0 0) 0 [] from World.ownsRow_made w #[] 0 (Nat.le_refl _) (by simp [maxLen]) (by simp)) hb1)
      have HB1 := Lib.hid (HA.out.trans (hb1.mono (by simp)))
      clear hb1 HA k1
      go_wp2_with (first | (go_at_call 37; refine (l1In_yes _ _ _ _ (by omega) (by omega)).mono ?_; rintro e w' ⟨rfl, rfl⟩))
      go_loopw [7, 8] (fun vo v wr => ∃ (t' : T) (ans : List Int) (j : Nat), v = .int .i64 j ∧ wr.ownsRow w.heap.size 3 1 vo ans.length (ans.map (Value.int .i64)) ∧ Below w.heap.size w wr ∧ Hid (At s t c j ans t')) (fun _ v _ => s.size - (intOf v).toNat)
      case atStart => exact ⟨t, [], 0, rfl, HO1.out, HB1.out, HAT.out⟩
      case round =>
        clear HO1 HB1 HAT
        obtain ⟨t', ans, j, rfl, hown, hbel, hat⟩ := hrel
        obtain ⟨⟨r, hdr⟩, hcm, hnd, hok, hask⟩ := hat.out
        have hjl := str_at (j := 0) hdr (text_pos t')
        rw [Nat.add_zero] at hjl
        obtain ⟨hjs, hj0⟩ := hjl
        have hal2 : ans.length ≤ 100 := by
          have := congrArg List.length hask
          simp at this
          omega
        clear hat
        cases t' with
        | leaf d =>
          have hd : low d = true := hok d (by simp [T.leaves])
          have hs0 : s[j] = d := hj0
          have hne : ((d.toNat : Int) == 40) = false := by
            rw [beq_eq_false_iff_ne]; intro h
            have : d = 40 := u8_num (n := 40) (by omega) (by omega)
            rw [this] at hd
            exact absurd hd (by decide)
          have hres : Hid (ask t c = ans) := by show _ = _; rw [hask]; simp [ask]
          have HO := Lib.hid hown
          have HB := Lib.hid hbel
          clear hdr hcm hnd hok hask hj0 hd hown hbel
          go_wp2_with fail
          go_ret
          rw [hres.out]
          exact owns_S HO.out (Nat.le_refl _) (by omega) HB.out
        | node a b =>
          have hs0 : s[j] = 40 := hj0
          obtain ⟨oa, ob⟩ := okL_node.1 hok
          have hd1 : s.data.toList.drop (j + 1) = a.text ++ (b.text ++ (41 :: r)) := by
            rw [← List.drop_drop, hdr]
            simp [T.text]
          have hP1 : P (s.data.toList.drop (j + 1)) = some (a, b.text ++ (41 :: r)) := by rw [hd1]; exact P_of oa _
          obtain ⟨he1, he2, he3⟩ := endI_some hP1
          rw [len_str] at he3
          obtain ⟨m, hm⟩ : ∃ m, m = j + 1 + a.text.length := ⟨_, rfl⟩
          rw [← hm] at he1 he2 he3
          have kE := fun w => l1End_any (s.size + 1) s (j + 1) ((j : Int) + 1) w (by omega) (by omega) (by omega) (by omega)
          rw [he1] at kE
          have HKE := Lib.hid kE
          have HD1 := Lib.hid hd1
          have HHE2 := Lib.hid he2
          have HM := Lib.hid hm
          have hjm : j + 1 ≤ m := by omega
          have hms : m ≤ s.size := by omega
          have HHD := Lib.hid hdr
          have HCM := Lib.hid hcm
          have HND := Lib.hid hnd
          have HOK := Lib.hid hok
          have HASK := Lib.hid hask
          clear kE he1 he2 he3 hd1 hP1 hm hj0 hdr hcm hnd hok hask
          obtain ⟨wo, hwo⟩ : ∃ wo : World, wo = wr := ⟨_, rfl⟩
          subst hwo
          go_wp2_with fail
          refine (HKE.out _).mono ?_
          rintro e w' ⟨rfl, rfl⟩
          go_wp2_with fail
          go_loop [10, 11] (fun vf v => ∃ (q : Nat) (bb : Bool), q ≤ a.text.length ∧ v = .int .i64 ((j : Int) + 1 + q) ∧ vf = .bool bb ∧ Hid (bb = decide (c ∈ a.text.take q))) (fun _ v => m - (intOf v).toNat)
          case atStart => exact ⟨0, false, by omega, by simp, rfl, by show _ = _; simp⟩
          case round =>
            obtain ⟨q, bb, hq, rfl, rfl, hbb⟩ := hrel
            have hmo := HM.out
            by_cases hlt : q < a.text.length
            · obtain ⟨hqs, hqv⟩ := str_at HD1.out hlt
              obtain ⟨d, hd⟩ : ∃ d, s[j + 1 + q] = d := ⟨_, rfl⟩
              rw [hd] at hqv
              have htk : a.text.take (q + 1) = a.text.take q ++ [d] := by rw [List.take_succ_eq_append_getElem hlt, ← hqv]
              have hi0 : (0 : Int) ≤ (j : Int) + 1 + (q : Int) := by omega
              have hi1 : (j : Int) + 1 + (q : Int) < (s.size : Int) := by omega
              have hi2 : (j : Int) + 1 + (q : Int) < (m : Int) := by omega
              have HTK := Lib.hid htk
              clear hqv htk hmo
              cases bb with
              | true =>
                have hbb2 : Hid (true = decide (c ∈ a.text.take (q + 1))) := by
                  have := of_decide_eq_true hbb.out.symm
                  show _ = _
                  rw [HTK.out]
                  simp [this]
                clear hbb
                go_wp2_with fail
                go_round
                case rel => exact ⟨q + 1, true, by omega, by go_num, rfl, hbb2⟩
                case measure => simp [intOf]; omega
              | false =>
                by_cases hdc : d = c
                · have hbb2 : Hid (true = decide (c ∈ a.text.take (q + 1))) := by
                    show _ = _
                    rw [HTK.out]
                    simp [hdc]
                  have htest : ((d.toNat : Int) == (c.toNat : Int)) = true := by simp [hdc]
                  clear hbb hdc
                  go_wp2_with fail
                  go_round
                  case rel => exact ⟨q + 1, true, by omega, by go_num, rfl, hbb2⟩
                  case measure => simp [intOf]; omega
                · have hbb2 : Hid (false = decide (c ∈ a.text.take (q + 1))) := by
                    have := of_decide_eq_false hbb.out.symm
                    show _ = _
                    rw [HTK.out]
                    simp [this, Ne.symm hdc]
                  have htest : ((d.toNat : Int) == (c.toNat : Int)) = false := by
                    rw [beq_eq_false_iff_ne]
                    intro h
                    exact hdc (UInt8.toNat_inj.1 (by omega))
                  clear hbb hdc
                  go_wp2_with fail
                  go_round
                  case rel => exact ⟨q + 1, false, by omega, by go_num, rfl, hbb2⟩
                  case measure => simp [intOf]; omega
            · have hqe : q = a.text.length := by omega
              have hmq : j + 1 + q = m := by omega
              have hbb2 : bb = decide (c ∈ a.leaves) := by
                rw [hbb.out, hqe, List.take_length, Bool.eq_iff_iff]
                simp only [decide_eq_true_eq]
                exact mem_text (okL_node.1 HOK.out).1 HCL.out
              have hmi : (j : Int) + 1 + (q : Int) = (m : Int) := by omega
              have HBB := Lib.hid hbb2
              have hL1 : ans.length < 1000000000 := by omega
              have hwsz := hbel.size
              have hnd := HND.out
              simp only [T.leaves, List.nodup_append] at hnd
              obtain ⟨hna, hnb, hdis⟩ := hnd
              obtain ⟨oa, ob⟩ := okL_node.1 HOK.out
              clear hmo hqe hmq hbb hbb2 hdis
              cases bb with
              | true =>
                have hca : c ∈ a.leaves := of_decide_eq_true HBB.out.symm
                have hat2 : Hid (At s t c (j + 1) (ans ++ [1]) a) := ⟨⟨_, HD1.out⟩, hca, hna, oa, by rw [HASK.out, ask, if_pos hca]; simp⟩
                clear hca hna hnb oa ob
                go_wp2_with (first | (at_builtin; (refine wpList_append_int _ rfl _ _ rfl _ _ ans 1 hown rfl rfl hL1 hwsz ?_); intro v2 w2 hown2 hb2))
                go_roundw
                case rel => exact ⟨a, ans ++ [1], j + 1, by go_num, hown2, hbel.trans hb2, hat2⟩
                case measure => simp [intOf]; omega
              | false =>
                have hca : c ∉ a.leaves := of_decide_eq_false HBB.out.symm
                have hcb : c ∈ b.leaves := by
                  rcases List.mem_append.1 HCM.out with h | h
                  · exact absurd h hca
                  · exact h
                have hat2 : Hid (At s t c m (ans ++ [0]) b) := ⟨⟨_, HHE2.out⟩, hcb, hnb, ob, by rw [HASK.out, ask, if_neg hca]; simp⟩
                clear hca hcb hna hnb oa ob
                go_wp2_with (first | (at_builtin; (refine wpList_append_int _ rfl _ _ rfl _ _ ans 0 hown rfl rfl hL1 hwsz ?_); intro v2 w2 hown2 hb2))
                go_roundw
                case rel => exact ⟨b, ans ++ [0], m, rfl, hown2, hbel.trans hb2, hat2⟩
                case measure => simp [intOf]; omega
    · rw [AF_out hk]
      have hk' : k < 0 ∨ (n : Int) - 1 < k := by omega
      clear hto hb ha hP hgood hk
      go_enter Try.func17, Try.ntmps17
      go_wp2_with fail
      refine (k1.out _).mono ?_
      rintro e w1 ⟨rfl, hb1⟩
      have HB1 := Lib.hid (HA.out.trans (hb1.mono (by simp)))
      clear hb1
      go_wp2_with (first | (go_at_call 37; refine (l1In_no _ _ _ _ (by omega)).mono ?_; rintro e w' ⟨rfl, rfl⟩))
      go_ret
      exact ⟨_, rfl, Ow.nil _ _ _ _, HB1.out⟩
end Go.Proofs.Ytbijpkphbepacaa
