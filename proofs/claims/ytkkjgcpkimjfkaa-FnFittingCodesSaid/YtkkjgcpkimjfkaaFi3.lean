/- slices.DeleteFunc over rows. -/
import Derived.Test.YtkkjgcpkimjfkaaProg
import Derived.Test.YtkkjgcpkimjfkaaFi2
namespace Go.Proofs.Ytkkjgcpkimjfkaa
open Go.RowKit

theorem getD_map {α β : Type} (l : List α) (f : α → β) (d : β) (j : Nat) (h : j < l.length) : (l.map f).getD j d = f l[j] := by
  simp [List.getD, h]

/-- The rows at some places of a slice of rows. -/
theorem OwR.pick {w w' : World} {base : Nat} {v v' : Value} {us : List Value} {rows : List (List Int)} (h : OwR w base v us rows) (idx : List Nat) (hs : idx.Pairwise (· < ·)) (hlt : ∀ m ∈ idx, m < rows.length) (hlen : idx.length ≤ rows.length)
    (hrow : ∀ j, j < rows.length → Ow w' base (us.getD j nilS) (rows.getD j [])) (hown : w'.ownsRow base 22 1 v' idx.length (idx.map (fun j => us.getD j nilS))) (hv : v'.ownBlock = v.ownBlock) :
    OwR w' base v' (idx.map (fun j => us.getD j nilS)) (idx.map (fun j => rows.getD j [])) := by
  have hg : ∀ j (hj : j < idx.length), idx[j] < rows.length := fun j hj => hlt _ (List.getElem_mem hj)
  have hlm : (idx.map (fun j => rows.getD j [])).length = idx.length := by simp
  refine ⟨by rw [List.length_map]; exact hown, by simp, by have := h.max; simp; omega, fun j hj => ?_, fun j hj b hb => ?_, fun i j hij hj b hb => ?_⟩
  · rw [hlm] at hj
    rw [getD_map _ _ _ _ hj, getD_map _ _ _ _ hj]
    exact hrow _ (hg j hj)
  · rw [hlm] at hj
    rw [getD_map _ _ _ _ hj, getD_map _ _ _ _ hj] at hb
    rw [hv]
    exact h.sep _ (hg j hj) b hb
  · rw [hlm] at hj
    have hi : i < idx.length := by omega
    rw [getD_map _ _ _ _ hi, getD_map _ _ _ _ hi] at hb
    rw [getD_map _ _ _ _ hj, getD_map _ _ _ _ hj]
    exact h.apart _ _ (List.pairwise_iff_getElem.1 hs i j hi hj hij) (hg j hj) b hb

theorem take_set_snoc {α : Type} (l : List α) (i : Nat) (x : α) (h : i < l.length) : (l.set i x).take (i + 1) = l.take i ++ [x] := by
  apply List.ext_getElem?
  intro m
  rw [List.getElem?_take, List.getElem?_append]
  by_cases e : m < i
  · rw [if_pos (by omega), List.getElem?_set, if_neg (by omega), if_pos (by simp; omega), List.getElem?_take, if_pos e]
  · by_cases e2 : m = i
    · subst e2
      rw [if_pos (by omega), List.getElem?_set, if_pos rfl, if_pos h, if_neg (by rw [List.length_take]; omega), List.length_take, Nat.min_eq_left (by omega), Nat.sub_self]
      rfl
    · rw [if_neg (by omega), if_neg (by simp; omega)]
      symm
      rw [List.getElem?_eq_none]
      simp; omega

def DelPost (P : List Int → Bool) (rows : List (List Int)) (base : Nat) (w : World) (e : Ending) (w' : World) : Prop :=
  (∃ v' us', e = .returned v' ∧ OwR w' base v' us' (rows.filter (fun r => !P r))) ∧ Below base w w'

set_option maxHeartbeats 4000000 in
theorem deleteR_any (P : List Int → Bool) (v : Value) (us : List Value) (rows : List (List Int)) (b1 base : Nat) (w : World) (h : OwR w base v us rows) (hbase : base ≤ w.heap.size)
    (hk : ∀ W u r, Below base w W → Rd W u r → (∃ k, k < rows.length ∧ r = rows.getD k []) → Calls Try.prog 55 #[u, .pointer (some ⟨b1, 0, none⟩)] W (BelRet (P r) W)) :
    Calls Try.prog 54 #[v, .func (Fn.func 55) #[] #[.pointer (some ⟨b1, 0, none⟩)]] w (DelPost P rows base w) := by
  have KI := Lib.hid (idxR_any P v rows b1 w h.rd (fun W u r b => hk W u r (b.mono hbase)))
  have HH := Lib.hid h
  have HK := Lib.hid hk
  have HBS := Lib.hid hbase
  have hmx := h.max
  unfold maxLen at hmx
  obtain ⟨a, ca, rfl, _, _⟩ := h.rd
  clear h hk
  generalize hn : rows.length = n at *
  have HN := Lib.hid hn
  clear hn
  unfold DelPost
  go_enter Try.func54, Try.ntmps54
  go_wp2_with fail
  refine KI.out.mono ?_
  rintro e w1 ⟨⟨k, rfl, hcase⟩, hb1⟩
  have HB1 := Lib.hid hb1
  clear hb1 KI
  rcases hcase with ⟨rfl, hall⟩ | ⟨m, rfl, hm, hP, hlow⟩
  · have HA : Hid (rows.filter (fun r => !P r) = rows) := by
      show _ = _
      refine List.filter_eq_self.2 fun r hr => ?_
      obtain ⟨j, hj, rfl⟩ := List.mem_iff_getElem.1 hr
      have := hall j hj
      rw [List.getD_eq_getElem?_getD, List.getElem?_eq_getElem hj] at this
      simpa using this
    clear hall
    go_wp2_with fail
    go_ret
    refine ⟨⟨_, us, rfl, ?_⟩, HB1.out.mono HBS.out⟩
    rw [HA.out]
    exact HH.out.below HB1.out
  · rw [HN.out] at hm
    have hul : us.length = n := HH.out.len.trans HN.out
    have hown := HH.out.own
    rw [hul] at hown
    obtain ⟨g, cap, ev, hbg, hgl⟩ := hown.form (by omega)
    obtain ⟨rfl, rfl⟩ : a = some ⟨g, 0, none⟩ ∧ ca = cap := by injection ev with e1 _ e3; exact ⟨e1, e3⟩
    have hcapn : n ≤ ca := by
      rcases hown.2 with ⟨h', _⟩ | ⟨g', cap', cur, h', _, _, h2, _⟩
      · simp at h'
      · injection h' with _ _ h3; omega
    have HLT : Hid ((kidx P rows (m + 1)).length < m + 1) := by
      show _ < _
      rw [kidx_yes hP]
      have := kidx_le P rows m
      omega
    have HK0 : Hid (m = (kidx P rows (m + 1)).length) := by
      show _ = _
      rw [kidx_yes hP, kidx_all hlow, List.length_range]
    have HK1 : Hid (us.take m = (kidx P rows (m + 1)).map (fun j => us.getD j nilS)) := by
      show _ = _
      rw [kidx_yes hP, kidx_all hlow]
      apply List.ext_getElem
      · simp; omega
      · intro i h1 h2
        have hi : i < us.length := by rw [List.length_take] at h1; omega
        simp [List.getD, hi]
    have HU : Hid (us.length = n) := hul
    have HO1 := Lib.hid (hown.kept (grownBy_any none HB1.out) (by simp [Value.ownBlock]))
    have HR1 : Hid (∀ j, j < n → Ow w1 base (us.getD j nilS) (rows.getD j [])) := fun j hj => (HH.out.row j (by rw [HN.out]; exact hj)).below HB1.out
    have hne : ((m : Int) == -1) = false := beq_eq_false_iff_ne.2 (by omega)
    have HBB := Lib.hid (HB1.out.mono HBS.out)
    have HCP := Lib.hid hcapn
    have HGL := Lib.hid hbg
    clear hP hlow hul hown ev hbg hgl hcapn
    go_wp2_with fail
    go_loopw [5, 6] (fun qi qj wr => ∃ (i j : Nat) (vs : List Value), j ≤ n ∧ i < j ∧ qi = .int .i64 i ∧ qj = .int .i64 j ∧ Hid (i = (kidx P rows j).length) ∧ Hid (vs.take i = (kidx P rows j).map (fun j => us.getD j nilS)) ∧
        Hid (∀ q, j ≤ q → q < n → vs[q]? = some (us.getD q nilS)) ∧ wr.ownsRow base 22 1 (.slice (some ⟨g, 0, none⟩) n ca) n vs ∧ Hid (∀ q, q < n → Ow wr base (us.getD q nilS) (rows.getD q [])) ∧ Hid (Below base w wr)) (fun _ qj _ => n - (intOf qj).toNat)
    case atStart =>
      refine ⟨m, m + 1, us, by omega, by omega, rfl, by go_num, HK0.out, HK1.out, fun q h1 h2 => vals_getD us q (by rw [HU.out]; exact h2), HO1.out, HR1.out, HBB.out⟩
    case round =>
      clear HO1 HR1 HBB HK0 HK1 HLT hm hne
      obtain ⟨i, j, vs, hj, hij, rfl, rfl, HI, HT, HV, hown, HR, HB⟩ := hrel
      by_cases hlt : j < n
      · have hcj := hown.cellAt j (by omega)
        rw [HV.out j (Nat.le_refl _) hlt] at hcj
        have hvl : vs.length = n := by rw [hown.1]; omega
        obtain ⟨yi, hyi⟩ : ∃ y, vs[i]? = some y := ⟨_, List.getElem?_eq_getElem (by omega)⟩
        have hru := HR.out j hlt
        have K := Lib.hid (HK.out wr (us.getD j nilS) (rows.getD j []) HB.out hru.rd ⟨j, hlt, rfl⟩)
        have HVL := Lib.hid hvl
        have HOW := Lib.hid hown
        have HYI := Lib.hid hyi
        obtain ⟨x, cx, hux, _, _⟩ := hru
        have HUX := Lib.hid hux
        rw [hux] at hcj K
        generalize (rows.getD j []).length = lk at *
        have HPT : Hid (P (rows.getD j []) = true → kidx P rows (j + 1) = kidx P rows j) := kidx_yes
        have HPF : Hid (P (rows.getD j []) = false → kidx P rows (j + 1) = kidx P rows j ++ [j]) := kidx_no
        generalize P (rows.getD j []) = b at *
        have hj0 : (0 : Int) ≤ (j : Int) := by omega
        have hj1 : (j : Int) < (n : Int) := by omega
        have hi0 : (0 : Int) ≤ (i : Int) := by omega
        have hi1 : (i : Int) < (n : Int) := by omega
        clear hown hvl hyi hux
        go_wp2_with fail
        refine K.out.mono ?_
        rintro e w2 ⟨rfl, hb2⟩
        have HO2 := Lib.hid (HOW.out.kept (grownBy_any none hb2) (by simp [Value.ownBlock]))
        have HR2 : Hid (∀ q, q < n → Ow w2 base (us.getD q nilS) (rows.getD q [])) := fun q hq => (HR.out q hq).below hb2
        have HB2 := Lib.hid (HB.out.trans (hb2.mono (Nat.le_trans HBS.out HB.out.size)))
        clear hb2 K HR HB HOW
        cases b with
        | true =>
          have HE := Lib.hid (HPT.out rfl)
          clear HPT HPF
          go_wp2_with fail
          go_roundw
          case rel => exact ⟨i, j + 1, vs, by omega, by omega, rfl, by go_num, by rw [HE.out]; exact HI.out, by rw [HE.out]; exact HT.out, fun q h1 h2 => HV.out q (by omega) h2, HO2.out, HR2.out, HB2.out⟩
          case measure => simp [intOf]; omega
        | false =>
          have HE := Lib.hid (HPF.out rfl)
          have ci := (HO2.out.cellAt i (by omega)).trans HYI.out
          have fi := HO2.out.frozenAt i
          clear HPT HPF
          go_wp2_with fail
          go_roundw
          case rel =>
            obtain ⟨s1, s2⟩ := HO2.out.stored i (.slice x lk cx)
            refine ⟨i + 1, j + 1, vs.set i (.slice x lk cx), by omega, by omega, by go_num, by go_num, by rw [HE.out, List.length_append, ← HI.out]; rfl, ?_, fun q h1 h2 => ?_, s1, fun q hq => (HR2.out q hq).grown s2 ?_, HB2.out.setCell (p := ⟨g, i, none⟩) HGL.out _⟩
            · show _ = _
              rw [HE.out, List.map_append, take_set_snoc _ _ _ (by rw [HVL.out]; omega), HT.out, List.map_cons, List.map_nil, HUX.out]
            · rw [List.getElem?_set, if_neg (by omega)]; exact HV.out q (by omega) h2
            · cases hb : blockOf (us.getD q nilS) (rows.getD q []) with
              | none => exact .inl rfl
              | some b => right; intro e; exact HH.out.sep q (by rw [HN.out]; exact hq) b hb e.symm
          case measure => simp [intOf]; omega
      · have hjn : j = n := by omega
        subst hjn
        have hvl : vs.length = j := by rw [hown.1]; omega
        have hcl : ∀ ty, (Builtin.clear_ #[29] ty #[.slice (some ⟨g, i, none⟩) (j - i) (ca - i)]).run Try.prog wr = .ok (.tuple #[]) (wr.setCells g i (List.replicate (j - i) nilS)) :=
          fun ty => Lib.run_clear_slice wr _ 22 ty nilS Try.underlying29 (fun _ => rfl) rfl rfl g i _ _ (by omega) (fun t ht => by rw [hown.cellAt (i + t) (by omega), List.getElem?_eq_getElem (by omega)]; rfl) (fun t ht => hown.frozenAt _)
        have HOW := Lib.hid hown
        have hcap := HCP.out
        have HVL := Lib.hid hvl
        clear hown hvl
        go_wp2_with fail
        go_ret
        obtain ⟨xs', o1, o2, o3⟩ := owns_setCells i (List.replicate (j - i) nilS) i wr vs HOW.out (Nat.le_refl _)
        have hsh := owns_shrink o1 i (by omega)
        rw [o2, HT.out] at hsh
        refine ⟨⟨_, (kidx P rows j).map (fun j => us.getD j nilS), rfl, ?_⟩, HB.out.grown o3 (Nat.le_trans HBS.out HB.out.size) (fun k hk => by injection hk with hk; have := HGL.out; omega)⟩
        have hpk := HH.out.pick (w' := wr.setCells g i (List.replicate (j - i) nilS)) (v' := .slice (some ⟨g, 0, none⟩) i ca) (kidx P rows j) (kidx_sorted _ _ _) (fun m hm => by rw [HN.out]; exact kidx_lt _ _ _ m hm) (by rw [HN.out]; exact kidx_le _ _ _)
          (fun q hq => (HR.out q (by rw [← HN.out]; exact hq)).grown o3 (by
            cases hb : blockOf (us.getD q nilS) (rows.getD q []) with
            | none => exact .inl rfl
            | some b => right; intro e; exact HH.out.sep q hq b hb e.symm)) (by rw [← HI.out]; exact hsh) rfl
        rw [← kidx_rows, HN.out]
        exact hpk
end Go.Proofs.Ytkkjgcpkimjfkaa
