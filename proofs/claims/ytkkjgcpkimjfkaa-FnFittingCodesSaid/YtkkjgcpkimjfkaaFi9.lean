/- The law FnFittingCodes: its parts. -/
import Derived.Test.YtkkjgcpkimjfkaaProg
import Derived.Test.YtkkjgcpkimjfkaaGs9
import Derived.Test.YtkkjgcpkimjfkaaFi6
import Derived.Test.YtkkjgcpkimjfkaaRows2
namespace Go.Proofs.Ytkkjgcpkimjfkaa
open Go.RowKit

set_option maxHeartbeats 1000000 in
theorem draw_FittingCodes (a : Option Addr) (len cap : Nat) (w : World) (h : Code8 w a len cap) :
    Calls Try.prog 39 #[.slice a len cap] w (DrawnGs w) := by
  go_enter Try.func39, Try.ntmps39
  go_wp2_with fail
  refine (open_any a len cap w h).mono ?_
  rintro e w1 ⟨rfl, hr, hb⟩
  have hrU := hr.toU
  clear hr
  go_wp2_with fail
  refine (guessing_any w.heap.size 0 12 (by omega) (by omega) (by omega) w1 hrU).mono ?_
  rintro e w2 ⟨P, C, v, T, rfl, hD, hT, hg⟩
  go_wp2_with fail
  refine bodyPost_ret (v := .tuple #[.int .i64 P, .int .i64 C, v]) (by simp [results, Try.results39, go_sem]) rfl ?_
  have hlow : Below w.heap.size w1 w2 := below_of_grownBy hg hb.size (Nat.le_refl _)
  exact ⟨P, C, v, T, rfl, ⟨hD.own.mono hb.size, fun t ht => (hD.row t ht).mono hb.size, hD.sep⟩, hT, hb.trans hlow⟩

set_option maxHeartbeats 1000000 in
theorem hasRow_yes (v u : Value) (rows : List (List Int)) (xs : List Int) (w : World) (h : RdT w v rows) (hu : Rd w u xs) (m : Nat) (hm : m < rows.length) (he : rows.getD m [] = xs) :
    Calls Try.prog 40 #[v, u] w fun e w' => e = .returned (.bool true) ∧ Below w.heap.size w w' := by
  obtain ⟨a, ca, rfl, hmx, ha⟩ := h
  unfold maxLen at hmx
  have HA := Lib.hid ha
  have HU := Lib.hid hu
  have HE := Lib.hid he
  obtain ⟨xu, cu, rfl, _, _⟩ := hu
  clear ha he
  generalize hn : rows.length = n at *
  have HN := Lib.hid hn
  clear hn
  generalize xs.length = lu at *
  go_enter Try.func40, Try.ntmps40
  go_wp2_with fail
  go_loopw [5] (fun q wr => ∃ k : Nat, k ≤ m ∧ q = .int .i64 k ∧ Below w.heap.size w wr) (fun q _ => m + 1 - (intOf q).toNat)
  case atStart => exact ⟨0, by omega, rfl, Below.refl _ _⟩
  case round =>
    obtain ⟨k, hk, rfl, hbel⟩ := hrel
    have hlt : k < n := by omega
    have hne : rows ≠ [] := by intro e; have := HN.out; rw [e] at this; simp at this; omega
    obtain ⟨g, off, rfl, hc⟩ := HA.out hne
    obtain ⟨y, h1, hry⟩ := hc k hlt
    have hg := World.block_lt_of_cell? w _ h1
    have c1 := (hbel.cell (p := ⟨g, off + k, none⟩) hg).trans h1
    have hk0 : (0 : Int) ≤ (k : Int) := by omega
    have hk1 : (k : Int) < (n : Int) := by omega
    have HB := Lib.hid hbel
    by_cases hxy : rows.getD k [] = xs
    · have K := Lib.hid (sameInts_yes y _ xs wr (by rw [← hxy]; exact hry.below hbel) (HU.out.below hbel))
      obtain ⟨x, cx, rfl, _, _⟩ := hry
      generalize (rows.getD k []).length = lk at *
      clear hc hne h1 hxy hbel
      go_wp2_with fail
      refine K.out.mono ?_
      rintro e w1 ⟨rfl, hb1⟩
      have HB1 := Lib.hid (HB.out.trans (hb1.mono HB.out.size))
      clear hb1
      go_wp2_with fail
      go_ret
      exact ⟨rfl, HB1.out⟩
    · have K := Lib.hid (sameInts_no y _ (rows.getD k []) xs wr (hry.below hbel) (HU.out.below hbel) hxy)
      have hkm : k ≠ m := fun e => hxy (by rw [e]; exact HE.out)
      obtain ⟨x, cx, rfl, _, _⟩ := hry
      generalize (rows.getD k []).length = lk at *
      clear hc hne h1 hxy hbel
      go_wp2_with fail
      refine K.out.mono ?_
      rintro e w1 ⟨rfl, hb1⟩
      have HB1 := Lib.hid (HB.out.trans (hb1.mono HB.out.size))
      clear hb1
      go_wp2_with fail
      go_roundw
      case rel => exact ⟨k + 1, by omega, by go_num, HB1.out⟩
      case measure => simp [intOf]; omega

theorem RdG.take {w : World} {a : Option Addr} {n cap : Nat} {gs : List Gs} (h : RdG w (.slice a n cap) gs) (m : Nat) (hm : m ≤ n) : RdG w (.slice a m cap) (gs.take m) := by
  obtain ⟨a', c', e, hmx, h⟩ := h
  injection e with e1 e2 e3
  subst e1 e2 e3
  have hl : (gs.take m).length = m := by simp; omega
  refine ⟨a, cap, by rw [hl], by rw [hl]; omega, fun hn => ?_⟩
  have hne : gs ≠ [] := by intro e; rw [e] at hn; simp at hn
  obtain ⟨g, off, e1, hc⟩ := h hne
  refine ⟨g, off, e1, fun j hj => ?_⟩
  rw [hl] at hj
  have hg : (gs.take m).getD j gNil = gs.getD j gNil := by
    rw [List.getD_eq_getElem?_getD, List.getD_eq_getElem?_getD, List.getElem?_take, if_pos hj]
  rw [hg]
  exact hc j (by omega)

theorem GOk_take {p c : Int} {gs : List Gs} (h : GOk p c gs = true) (m : Nat) : GOk p c (gs.take m) = true := by
  unfold GOk at h ⊢
  simp only [Bool.and_eq_true, decide_eq_true_eq, Bool.not_eq_true'] at h ⊢
  refine ⟨h.1, by have := h.2.1; simp; omega, List.any_eq_false.2 fun x hx => List.any_eq_false.1 h.2.2 x (List.mem_of_mem_take hx)⟩
theorem Fit_take {p c : Int} {gs : List Gs} {r : List Int} (h : Fit p c gs r = true) (m : Nat) : Fit p c (gs.take m) r = true := by
  unfold Fit at h ⊢
  rw [List.all_eq_true] at h ⊢
  exact fun x hx => h x (List.mem_of_mem_take hx)
theorem FC_nil {p c : Int} (h : GOk p c [] = true) : FC p c [] = AC p c := by
  rw [FC_yes h]
  exact List.filter_eq_self.2 fun _ _ => rfl
theorem mem_getD {rows : List (List Int)} {x : List Int} (h : x ∈ rows) : ∃ m, m < rows.length ∧ rows.getD m [] = x := by
  obtain ⟨m, hm, e⟩ := List.mem_iff_getElem.1 h
  exact ⟨m, hm, by rw [List.getD_eq_getElem?_getD, List.getElem?_eq_getElem hm]; exact e⟩
theorem getD_mem {rows : List (List Int)} {j : Nat} (hj : j < rows.length) : rows.getD j [] ∈ rows := by
  rw [List.getD_eq_getElem?_getD, List.getElem?_eq_getElem hj]; exact List.getElem_mem hj
/-- each code that fits, fits without the last guesses -/
theorem FC_less {p c : Int} {gs : List Gs} (h : GOk p c gs = true) (m : Nat) (j : Nat) (hj : j < (FC p c gs).length) : ∃ i, i < (FC p c (gs.take m)).length ∧ (FC p c (gs.take m)).getD i [] = (FC p c gs).getD j [] := by
  apply mem_getD
  have hm := getD_mem hj
  rw [FC_yes h] at hm
  have hm2 := List.mem_filter.1 hm
  rw [FC_yes (GOk_take h m)]
  refine List.mem_filter.2 ⟨?_, ?_⟩
  · rw [FC_yes h]; exact hm2.1
  · rw [FC_yes h]; exact Fit_take hm2.2 m
/-- the codes that fit have the told answers -/
theorem FC_hit {p c : Int} {gs : List Gs} (h : GOk p c gs = true) (j : Nat) (hj : j < (FC p c gs).length) (k : Nat) (hk : k < gs.length) :
    RA p c ((FC p c gs).getD j []) (gs.getD k gNil).code = (gs.getD k gNil).right ∧ RB p c ((FC p c gs).getD j []) (gs.getD k gNil).code = (gs.getD k gNil).near := by
  have hm := getD_mem hj
  rw [FC_yes h] at hm
  have hf := (List.mem_filter.1 hm).2
  rw [← FC_yes h] at hf
  unfold Fit at hf
  rw [List.all_eq_true] at hf
  have := hf (gs.getD k gNil) (by rw [List.getD_eq_getElem?_getD, List.getElem?_eq_getElem hk]; exact List.getElem_mem hk)
  unfold Hit at this
  simpa only [Bool.and_eq_true, decide_eq_true_eq] using this
end Go.Proofs.Ytkkjgcpkimjfkaa
