/- DepthsOf, both; impl.TreeOk. -/
import Derived.Test.YtanhdnbjepjhlaaProg
import Derived.Test.YtanhdnbjepjhlaaTreeG
import Derived.Test.YtanhdnbjepjhlaaTreeH
namespace Go.Proofs.Ytanhdnbjepjhlaa
open Go.RowKit


/-- what DepthsOf returns -/
def DO (n : Int) (l : List UInt8) : List Int := match TO n l with | some t => DL n.toNat t | none => []
theorem DO_none {n : Int} {l : List UInt8} (h : TO n l = none) : DO n l = [] := by unfold DO; rw [h]
theorem DO_some {n : Int} {l : List UInt8} {t : T} (h : TO n l = some t) : DO n l = DL n.toNat t := by unfold DO; rw [h]

/-- a slice with a row of its own, or nil for no tree -/
def DPost (n : Int) (l : List UInt8) (w : World) (e : Ending) (w' : World) : Prop :=
  Below w.heap.size w w' ∧ ((TO n l = none ∧ e = .returned (.slice none 0 0)) ∨
    ∃ (t : T) (g : Nat), TO n l = some t ∧ e = .returned (.slice (some ⟨g, 0, none⟩) n.toNat n.toNat) ∧ w.heap.size ≤ g ∧ RowAt w' g n.toNat (fun j => (dep t j : Int)))

set_option maxHeartbeats 1000000 in
theorem impl_DepthsOf (n : Int) (s : ByteArray) (hs : s.size ≤ 1048576) (w : World) :
    Calls Try.prog 16 #[.int .i64 n, .string s] w (DPost n s.data.toList w) := by
  have k1 := Lib.hid (treeOf_any n s hs w)
  obtain ⟨i0, hi, hz0, hz1, hz2⟩ := info_parts YtanhdnbjepjhlaainfoInt
  go_enter Try.func16, Try.ntmps16
  go_wp2_with fail
  refine k1.out.mono ?_
  rintro e w1 ⟨hbel, ⟨h1, rfl⟩ | ⟨t, g, h1, rfl, hg, hg2, hrd⟩⟩
  · have H1 := Lib.hid h1
    have HBEL := Lib.hid hbel
    clear h1 hbel hi hz0 hz1 hz2
    go_wp2_with fail
    go_ret
    exact ⟨HBEL.out, .inl ⟨H1.out, rfl⟩⟩
  · have hn := (TO_some.1 h1).1
    obtain ⟨n, rfl⟩ := Int.eq_ofNat_of_zero_le (show 0 ≤ n by omega)
    rw [Int.toNat_natCast] at hrd ⊢
    obtain ⟨hn1, hn2⟩ := hn
    have H1 := Lib.hid h1
    have HBEL := Lib.hid hbel
    have HRD := Lib.hid hrd
    obtain ⟨g2, hg2e⟩ : ∃ g2, g2 = w1.heap.size := ⟨_, rfl⟩
    have HG2 := Lib.hid hg2e
    clear h1 hbel hrd hg2e
    go_wp2_with (first | (at_make; (refine wpList_make_full _ rfl _ _ 23 rfl w1.heap.size 3 i0 (.int .i64 0) 1 Try.underlying23 hi hz0 hz1 .i64 .i64 _ _ n rfl rfl (by omega) (by omega) (by rw [hz2]; omega) (by unfold maxLen; omega) (Nat.le_refl _) ?_); intro w2 hown2 hgrow2))
    have hrow := RowAt.made hown2
    have hb2 := grown_below hgrow2
    rw [← HG2.out] at hrow hb2 hg2 ⊢
    clear hown2 hgrow2 hi hz0 hz1 hz2
    go_loopw [22] (fun v wr => ∃ k : Nat, k ≤ n ∧ v = .int .i64 k ∧ RowAt wr g2 n (fun j => if j < k then (dep t j : Int) else 0) ∧ Below g2 w1 wr) (fun v _ => n - (intOf v).toNat)
    case atStart => exact ⟨0, by omega, rfl, by simpa using hrow, hb2⟩
    case round =>
      clear hrow hb2
      obtain ⟨k, hk, rfl, hrow, hb2⟩ := hrel
      by_cases hlt : k < n
      · obtain ⟨v, hv, hr⟩ := HRD.out k hlt
        obtain ⟨va, vc, rfl, hvm, _⟩ := hr
        unfold maxLen at hvm
        obtain ⟨d, hd⟩ : ∃ d, (ask t (letter k)).length = d := ⟨_, rfl⟩
        rw [hd] at hv hvm
        have hcv := (hb2.cell (p := ⟨g, k, none⟩) hg2).trans hv
        have hc0 := hrow.cell k hlt
        have hf0 := hrow.free k hlt
        rw [if_neg (Nat.lt_irrefl k)] at hc0
        have hi0 : (0 : Int) ≤ (k : Int) := by omega
        have hi1 : (k : Int) < (n : Int) := by omega
        have HD : Hid ((dep t k : Int) = d) := by show _ = _; unfold dep; rw [hd]
        have HROW := Lib.hid hrow
        clear hv hd hrow
        go_wp2_with fail
        go_roundw
        case rel =>
          refine ⟨k + 1, by omega, by go_num, (HROW.out.set k _).congr ?_, hb2.setCell (Nat.le_refl _) _⟩
          intro j hj
          by_cases e : j = k
          · subst e; rw [if_pos rfl, if_pos (by omega)]; exact HD.out.symm
          · rw [if_neg e]
            by_cases l : j < k
            · rw [if_pos l, if_pos (by omega)]
            · rw [if_neg l, if_neg (by omega)]
        case measure => simp [intOf]; omega
      · have hke : k = n := by omega
        have hrow2 : RowAt wr g2 n (fun j => (dep t j : Int)) := hrow.congr (fun j hj => if_pos (by omega))
        have HROW := Lib.hid hrow2
        clear hke hrow hrow2
        go_wp2_with fail
        go_ret
        exact ⟨HBEL.out.trans (hb2.mono (by rw [HG2.out]; exact HBEL.out.size)), .inr ⟨t, g2, H1.out, by simp, by rw [HG2.out]; exact HBEL.out.size, by simpa using HROW.out⟩⟩
end Go.Proofs.Ytanhdnbjepjhlaa
