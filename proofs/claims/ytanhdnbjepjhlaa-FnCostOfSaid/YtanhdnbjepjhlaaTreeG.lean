/- impl.treeOf: the answers to each thing of a tree. -/
import Derived.Test.YtanhdnbjepjhlaaProg
import Derived.Test.YtanhdnbjepjhlaaTreeF
namespace Go.Proofs.Ytanhdnbjepjhlaa
open Go.RowKit

/-- Block B holds n cells, cell j the value f j; none is frozen. -/
def RowV (w : World) (B n : Nat) (f : Nat → Value) : Prop :=
  ∀ j, j < n → w.cell? ⟨B, j, none⟩ = some (f j) ∧ w.frozen? ⟨B, j, none⟩ = false
theorem RowV.congr {w : World} {B n : Nat} {f g : Nat → Value} (h : RowV w B n f) (e : ∀ j, j < n → f j = g j) : RowV w B n g :=
  fun j hj => by rw [← e j hj]; exact h j hj
theorem RowV.set {w : World} {B n : Nat} {f : Nat → Value} (h : RowV w B n f) (i : Nat) (v : Value) : RowV (w.setCell ⟨B, i, none⟩ v) B n (fun j => if j = i then v else f j) := by
  intro j hj
  have hf : (w.setCell ⟨B, i, none⟩ v).frozen? ⟨B, j, none⟩ = false := by
    rw [World.frozen?_setCell]; exact (h j hj).2
  refine ⟨?_, hf⟩
  by_cases e : j = i
  · subst e
    rw [World.cell?_setCell_same _ _ _ (h j hj).1]
    simp
  · rw [World.cell?_setCell_other _ _ _ _ (fun h => e (by injection h with _ h2 _; exact h2.symm))]
    simp only [e, if_false]
    exact (h j hj).1
theorem RowV.below {w w' : World} {B n Bd : Nat} {f : Nat → Value} (h : RowV w B n f) (b : Below Bd w w') (hB : B < Bd) : RowV w' B n f :=
  fun j hj => ⟨(b.cell (p := ⟨B, j, none⟩) hB).trans (h j hj).1, (b.frozen (p := ⟨B, j, none⟩) hB).trans (h j hj).2⟩
theorem RowV.made {w : World} {base g n c e : Nat} (h : w.ownsRow base e 1 (.slice (some ⟨g, 0, none⟩) n c) n (madeCells (Value.slice none 0 0).cells (n * 1)).toList) : RowV w g n (fun _ => .slice none 0 0) := by
  intro j hj
  refine ⟨?_, h.frozenAt j⟩
  rw [h.cellAt j (by omega)]
  simp [Value.cells, toList_madeCells_one, hj]
theorem YtanhdnbjepjhlaainfoSl : (Try.prog.info? 23).map (fun i => (i.zero, i.size, i.bytes)) = some (some (.slice none 0 0), 1, 24) := by kernel_rfl

def TPost (n : Int) (L : List UInt8) (w : World) (e : Ending) (w' : World) : Prop :=
  Below w.heap.size w w' ∧ ((TO n L = none ∧ e = .returned (.tuple #[.slice none 0 0, .bool false])) ∨
    ∃ (t : T) (g : Nat), TO n L = some t ∧ e = .returned (.tuple #[.slice (some ⟨g, 0, none⟩) n.toNat n.toNat, .bool true]) ∧ w.heap.size ≤ g ∧ g < w'.heap.size ∧
      ∀ i, i < n.toNat → ∃ v, w'.cell? ⟨g, i, none⟩ = some v ∧ Rd w' v (ask t (letter i)))
theorem tpost_no {n : Int} {L : List UInt8} {w w' : World} (h : TO n L = none) (b : Below w.heap.size w w') : TPost n L w (.returned (.tuple #[.slice none 0 0, .bool false])) w' := ⟨b, .inl ⟨h, rfl⟩⟩

theorem MM.made (w : World) : MM (w.alloc (.map #[] 0)) w.heap.size 0 (fun _ => none) :=
  ⟨_, MapAt.made _ _ _ _, fun c => ⟨rfl, fun v L h => by cases h⟩⟩

set_option maxHeartbeats 4000000 in
theorem treeOf_any (n : Int) (s : ByteArray) (hs : s.size ≤ 1048576) (w : World) :
    Calls Try.prog 26 #[.int .i64 n, .string s] w (TPost n s.data.toList w) := by
  by_cases hn : 1 ≤ n ∧ n ≤ 9
  · obtain ⟨hn1, hn2⟩ := hn
    by_cases h36 : s.size ≤ 36
    · obtain ⟨n, rfl⟩ := Int.eq_ofNat_of_zero_le (show 0 ≤ n by omega)
      obtain ⟨X, hX⟩ : ∃ X, rt (s.size + 1) s.data.toList [] (fun _ => none) 0 = X := ⟨_, rfl⟩
      have hXl := rt_len (s.size + 1) s.data.toList [] (fun _ => none) 0
      rw [hX, len_str] at hXl
      obtain ⟨hXl1, hXl2⟩ := hXl
      obtain ⟨b1, hb1⟩ : ∃ b1, X.ok = b1 := ⟨_, rfl⟩
      have K1 := routes_any (s.size + 1) s (.slice none 0 0) [] (fun _ => none) 0 w.heap.size (w.alloc (.map #[] 0)) (by omega) (by omega) (by simp; omega) (by omega) (Rd.nil _ _ _) (MM.made w)
      rw [hX] at K1
      have k1 : Calls Try.prog 33 #[.string s, .slice none 0 0, .map (some w.heap.size)] (w.alloc (.map #[] 0)) fun e w'' => ∃ s', e = .returned (.tuple #[.string s', .bool b1]) ∧ s'.data.toList = X.rest ∧ MM w'' w.heap.size X.n X.D ∧ (w.alloc (.map #[] 0)).grownBy w'' (some w.heap.size) := by
        refine K1.mono ?_
        rintro e w'' ⟨s', h3, h4⟩
        exact ⟨s', by rw [h3, hb1], h4⟩
      have HK1 := Lib.hid k1
      have hmm := @run_makeMap Try.prog
      have ha : Below w.heap.size w (w.alloc (.map #[] 0)) := (Below.refl _ _).alloc (Nat.le_refl _) _
      have HA := Lib.hid ha
      have HX := Lib.hid hX
      have HB1 := Lib.hid hb1
      clear K1 k1 hX hb1 ha
      go_enter Try.func26, Try.ntmps26
      go_wp2_with (first | (go_at_call 27; refine (in_yes _ _ _ _ (by omega) (by omega)).mono ?_; rintro e w' ⟨rfl, rfl⟩))
      refine HK1.out.mono ?_
      rintro e w1 ⟨s', rfl, hs', hM1, hg1⟩
      have HS' := Lib.hid hs'
      have HM1 := Lib.hid hM1
      have B1 := Lib.hid (HA.out.trans (below_of_grownBy hg1 (by simp) (Nat.le_refl _)))
      have z1 : w.heap.size < w1.heap.size := hM1.lt
      clear hs' hM1 hg1 HA HK1
      cases b1 with
      | false =>
        have e : TO n s.data.toList = none := TO_none (by
          rintro t ⟨_, h2, h3⟩
          have := rt_yes (s.size + 1) s.data.toList [] (fun _ => none) 0 t [] (by rw [len_str]; omega) h2 ⟨h3.2.1, fun _ _ => rfl⟩
          have h4 := HB1.out
          rw [← HX.out, this] at h4
          cases h4)
        have HE := Lib.hid e
        clear e
        go_wp2_with fail
        go_ret2
        exact tpost_no HE.out B1.out
      | true =>
        obtain ⟨t, r, hP, hfr⟩ := rt_ok (s.size + 1) s.data.toList [] (fun _ => none) 0 (by rw [len_str]; omega) (by rw [HX.out, HB1.out])
        have hXe := rt_yes (s.size + 1) s.data.toList [] (fun _ => none) 0 t r (by rw [len_str]; omega) hP hfr
        rw [HX.out, Nat.zero_add] at hXe
        subst hXe
        have HP := Lib.hid hP
        simp only at HS' HM1 hXl2
        have hu : ∀ t' , TO n s.data.toList = some t' → t' = t ∧ r = [] := by
          intro t' h
          have h2 := (TO_some.1 h).2.1
          rw [HP.out] at h2
          injection h2 with h2
          injection h2 with h3 h4
          exact ⟨h3.symm, h4⟩
        have HU := Lib.hid hu
        clear hP hu hXl1 HX HB1
        by_cases hr : r = []
        · obtain rfl := str_nil (HS'.out.trans hr)
          have HR := Lib.hid hr
          clear hr
          by_cases hlen : t.leaves.length = n
          · have hln : ((t.leaves.length : Int) != (n : Int)) = false := by simp [hlen]
            have HLN := Lib.hid hlen
            obtain ⟨F, hF, hFD⟩ := HM1.out
            have HFD := Lib.hid hFD
            clear hFD hlen hXl2
            have hml := fun ty => hF.len Try.underlying53 ty
            obtain ⟨i0, hi, hz0, hz1, hz2⟩ := info_parts YtanhdnbjepjhlaainfoSl
            obtain ⟨g, hg⟩ : ∃ g, g = w1.heap.size := ⟨_, rfl⟩
            have HG := Lib.hid hg
            clear hg
            go_wp2_with (first | (at_make; (refine wpList_make_full _ rfl _ _ 44 rfl w1.heap.size 23 i0 (.slice none 0 0) 1 Try.underlying44 hi hz0 hz1 .i64 .i64 _ _ n rfl rfl (by omega) (by omega) (by rw [hz2]; omega) (by unfold maxLen; omega) (Nat.le_refl _) ?_); intro w2 hown2 hgrow2))
            have hrow := RowV.made hown2
            have hbel := grown_below hgrow2
            rw [← HG.out] at hrow hbel ⊢
            clear hown2 hgrow2 hi hz0 hz1 hz2 hml
            go_loopw [44] (fun v wr => ∃ k : Nat, k ≤ n ∧ v = .int .i64 k ∧ RowV wr g n (fun j => if j < k then (F (letter j)).getD (.slice none 0 0) else .slice none 0 0) ∧ Below g w1 wr ∧ Hid (∀ j, j < k → letter j ∈ t.leaves)) (fun v _ => n - (intOf v).toNat)
            case atStart => exact ⟨0, by omega, rfl, by simpa using hrow, hbel, fun j hj => by omega⟩
            case round =>
              clear hrow hbel
              obtain ⟨k, hk, rfl, hrow, hbel, hall⟩ := hrel
              by_cases hlt : k < n
              · have hk26 : k < 26 := by omega
                have hkey : bkey (letter k) = .int .u8 (97 + (k : Int)) := by unfold bkey; rw [letter_toNat k hk26]; simp
                have HKEY := Lib.hid hkey
                have hFr : MapAt Try.prog 5 bkey wr w.heap.size t.leaves.length F := hF.kept (grownBy_any none (hbel.mono (Nat.le_of_eq HG.out.symm))) (by simp)
                have hi0 : (0 : Int) ≤ (k : Int) := by omega
                have hi1 : (k : Int) < (n : Int) := by omega
                clear hkey
                by_cases hin : letter k ∈ t.leaves
                · have hD : updAll (fun _ => none) (t.paths []) (letter k) = some (ask t (letter k)) := by
                    have := ask_path t (fun _ => none) [] (letter k) hfr.1 hin
                    simpa using this
                  have h1 := HFD.out (letter k)
                  rw [hD] at h1
                  obtain ⟨v, hv⟩ : ∃ v, F (letter k) = some v := by
                    cases hF2 : F (letter k) with
                    | none => rw [hF2] at h1; cases h1.1
                    | some v => exact ⟨v, rfl⟩
                  have hrd := h1.2 v _ hv rfl
                  have HB : Hid ((F (letter k)).isSome = true) := by show _ = _; rw [hv]; rfl
                  have HV : Hid ((F (letter k)).getD (.slice none 0 0) = v) := by show _ = _; rw [hv]; rfl
                  obtain ⟨va, vc, hve, _⟩ := hrd
                  have hall2 : Hid (∀ j, j < k + 1 → letter j ∈ t.leaves) := fun j hj => by
                    by_cases e : j = k
                    · subst e; exact hin
                    · exact hall.out j (by omega)
                  obtain ⟨ln, hln2⟩ : ∃ ln, (ask t (letter k)).length = ln := ⟨_, rfl⟩
                  rw [hln2] at hve
                  subst hve
                  have hc0 := (hrow k hlt).1
                  have hf0 := (hrow k hlt).2
                  dsimp only at hc0
                  rw [if_neg (Nat.lt_irrefl k)] at hc0
                  have HROW := Lib.hid hrow
                  clear hD h1 hin hall hln2 hv hrow
                  go_wp2_with (first | (at_lookup; go_loud (refine wpList_look_ok _ rfl _ _ 53 rfl YtanhdnbjepjhlaakeyU8 Try.underlying53 (YtanhdnbjepjhlaazeroSl _) rfl hFr (letter k) (by rw [HKEY.out]; rfl) (bkey_of (letter k)) HV.out HB.out ?_)))
                  go_roundw
                  case rel =>
                    refine ⟨k + 1, by omega, by go_num, (HROW.out.set k _).congr ?_, hbel.setCell (Nat.le_refl _) _, hall2⟩
                    intro j hj
                    by_cases e : j = k
                    · subst e; rw [if_pos rfl, if_pos (by omega)]; exact HV.out.symm
                    · rw [if_neg e]
                      by_cases l : j < k
                      · rw [if_pos l, if_pos (by omega)]
                      · rw [if_neg l, if_neg (by omega)]
                  case measure => simp [intOf]; omega
                · have hD : updAll (fun _ => none) (t.paths []) (letter k) = none := by
                    rw [updAll_none, paths_fst]
                    exact ⟨rfl, hin⟩
                  have h1 := (HFD.out (letter k)).1
                  rw [hD] at h1
                  have HB : Hid ((F (letter k)).isSome = false) := h1
                  obtain ⟨v, hv⟩ : ∃ v, (F (letter k)).getD (.slice none 0 0) = v := ⟨_, rfl⟩
                  have HV := Lib.hid hv
                  have e : TO n s.data.toList = none := TO_none (fun t' h => by
                    have h2 := (HU.out t' (TO_some.2 h)).1
                    have h3 := h.2.2.2.2 k (by omega)
                    rw [h2] at h3
                    exact hin h3)
                  have HE := Lib.hid e
                  clear hD h1 hin hall hv e hrow
                  go_wp2_with (first | (at_lookup; (refine wpList_look_ok _ rfl _ _ 53 rfl YtanhdnbjepjhlaakeyU8 Try.underlying53 (YtanhdnbjepjhlaazeroSl _) rfl hFr (letter k) (by rw [HKEY.out]; rfl) (bkey_of (letter k)) HV.out HB.out ?_)))
                  go_ret2
                  exact tpost_no HE.out (B1.out.trans (hbel.mono (by rw [HG.out]; omega)))
              · have hke : k = n := by omega
                have HKE := Lib.hid hke
                have hgood : Good n t := ⟨HLN.out, hfr.1, fun i hi => hall.out i (by omega)⟩
                have hto : TO n s.data.toList = some t := TO_some.2 ⟨by omega, by rw [HP.out, HR.out], by simpa using hgood⟩
                have HTO := Lib.hid hto
                have HRD : Hid (∀ i, i < n → ∃ v, wr.cell? ⟨g, i, none⟩ = some v ∧ Rd wr v (ask t (letter i))) := by
                  intro i hi
                  have hc0 := (hrow i hi).1
                  dsimp only at hc0
                  rw [if_pos (by omega)] at hc0
                  have hD : updAll (fun _ => none) (t.paths []) (letter i) = some (ask t (letter i)) := by
                    have := ask_path t (fun _ => none) [] (letter i) hfr.1 (hall.out i (by omega))
                    simpa using this
                  have h1 := HFD.out (letter i)
                  rw [hD] at h1
                  obtain ⟨v, hv⟩ : ∃ v, F (letter i) = some v := by
                    cases hF2 : F (letter i) with
                    | none => rw [hF2] at h1; cases h1.1
                    | some v => exact ⟨v, rfl⟩
                  have hrd := h1.2 v _ hv rfl
                  rw [hv] at hc0
                  exact ⟨v, hc0, hrd.below (hbel.mono (Nat.le_of_eq HG.out.symm))⟩
                have hgs : Hid (g < wr.heap.size) := World.block_lt_of_cell? wr _ (hrow 0 (by omega)).1
                clear hke hgood hto hall hrow
                go_wp2_with fail
                go_ret2
                exact ⟨B1.out.trans (hbel.mono (by rw [HG.out]; omega)), .inr ⟨t, g, HTO.out, by simp, by rw [HG.out]; omega, hgs.out, by simpa using HRD.out⟩⟩
          · have hln : ((t.leaves.length : Int) != (n : Int)) = true := by rw [bne_iff_ne]; omega
            have e : TO n s.data.toList = none := TO_none (fun t' h => by
              have h1 := (HU.out t' (TO_some.2 h)).1
              have h2 := h.2.2.1
              rw [h1] at h2
              exact hlen (by omega))
            have HE := Lib.hid e
            obtain ⟨F, hF, hFD⟩ := HM1.out
            clear e hlen hXl2 hFD
            have hml := fun ty => hF.len Try.underlying53 ty
            go_wp2_with fail
            go_ret2
            exact tpost_no HE.out B1.out
        · have hne : (s'.toList == []) = false := by rw [ByteArray.toList_eq, HS'.out]; simpa using hr
          have e : TO n s.data.toList = none := TO_none (fun t' h => hr (HU.out t' (TO_some.2 h)).2)
          have HE := Lib.hid e
          clear e hr hXl2
          go_wp2_with fail
          go_ret2
          exact tpost_no HE.out B1.out
    · have e : TO n s.data.toList = none := TO_none (by
        rintro t ⟨_, h2, h3⟩
        have := text_len t
        have h4 := (P_text h2).1
        rw [List.append_nil] at h4
        have h5 := len_str s
        rw [h4] at h5
        have h6 := h3.1
        omega)
      have HE := Lib.hid e
      have h37 : 36 < (s.size : Int) := by omega
      clear e h36
      go_enter Try.func26, Try.ntmps26
      go_wp2_with (first | (go_at_call 27; refine (in_yes _ _ _ _ (by omega) (by omega)).mono ?_; rintro e w' ⟨rfl, rfl⟩))
      go_ret2
      exact tpost_no HE.out (Below.refl _ _)
  · have e : TO n s.data.toList = none := TO_none (fun t h => hn h.1)
    have HE := Lib.hid e
    clear e
    go_enter Try.func26, Try.ntmps26
    go_wp2_with (first | (go_at_call 27; refine (in_no _ _ _ _ (by omega)).mono ?_; rintro e w' ⟨rfl, rfl⟩))
    go_ret2
    exact tpost_no HE.out (Below.refl _ _)
end Go.Proofs.Ytanhdnbjepjhlaa
