/- FittingCodes, both. -/
import Derived.Test.YtkkjgcpkimjfkaaProg
import Derived.Test.YtkkjgcpkimjfkaaFi3
import Derived.Test.YtkkjgcpkimjfkaaRows7
namespace Go.Proofs.Ytkkjgcpkimjfkaa
open Go.RowKit

/-- the codes that fit guesses -/
def FC (p c : Int) (gs : List Gs) : List (List Int) := if GOk p c gs = true then (AC p c).filter (Fit p c gs) else []
theorem FC_no {p c : Int} {gs : List Gs} (h : GOk p c gs = false) : FC p c gs = [] := by unfold FC; rw [if_neg (by rw [h]; simp)]
theorem FC_yes {p c : Int} {gs : List Gs} (h : GOk p c gs = true) : FC p c gs = (AC p c).filter (Fit p c gs) := if_pos h

theorem GOk_is {p c : Int} {gs : List Gs} (h : GOk p c gs = true) : ((1 ≤ p ∧ p ≤ 3) ∧ (1 ≤ c ∧ c ≤ 5)) ∧ gs.length ≤ 9 ∧ ∀ k, k < gs.length → COk p c (gs.getD k gNil).code = true := by
  unfold GOk at h
  simp only [Bool.and_eq_true, decide_eq_true_eq, Bool.not_eq_true'] at h
  obtain ⟨h1, h2, h3⟩ := h
  refine ⟨of_decide_eq_true h1, h2, fun k hk => ?_⟩
  have hb : GBad p c (gs.getD k gNil) = false := by
    have := (List.any_eq_false.1 h3) (gs.getD k gNil) (by rw [List.getD_eq_getElem?_getD, List.getElem?_eq_getElem hk]; exact List.getElem_mem hk)
    simpa using this
  unfold GBad at hb
  simp only [Bool.or_eq_false_iff, Bool.not_eq_false'] at hb
  exact hb.1

theorem AC_ok (p c : Int) (j : Nat) (hj : j < (AC p c).length) : COk p c ((AC p c).getD j []) = true := by
  by_cases h : (1 ≤ p ∧ p ≤ 3) ∧ (1 ≤ c ∧ c ≤ 5)
  · obtain ⟨p, rfl⟩ := Int.eq_ofNat_of_zero_le (show 0 ≤ p by omega)
    obtain ⟨c, rfl⟩ := Int.eq_ofNat_of_zero_le (show 0 ≤ c by omega)
    rw [AC_yes (by omega) (by omega) (by omega) (by omega)] at hj ⊢
    have hl := ext_lens c p j hj
    have hin := ext_in c p [] ((ext c p []).getD j []) (by simp) (by rw [List.getD_eq_getElem?_getD, List.getElem?_eq_getElem hj]; exact List.getElem_mem hj)
    unfold COk CsOk
    simp only [Bool.and_eq_true, decide_eq_true_eq]
    exact ⟨by omega, by omega, AllB_iff.2 (fun x hx => by have := hin x hx; omega)⟩
  · rw [AC_no h] at hj
    simp at hj

def FcPost (p c : Int) (gs : List Gs) (w : World) (e : Ending) (w' : World) : Prop := (∃ v us, e = .returned v ∧ OwR w' w.heap.size v us (FC p c gs)) ∧ Below w.heap.size w w'

set_option maxHeartbeats 2000000 in
theorem impl_FittingCodes (p c : Int) (v : Value) (gs : List Gs) (w : World) (h : RdG w v gs) :
    Calls Try.prog 30 #[.int .i64 p, .int .i64 c, v] w (FcPost p c gs w) := by
  obtain ⟨wB, hwB⟩ : ∃ wB, wB = w.alloc (.cells #[v] 37) := ⟨_, rfl⟩
  have hb : Below w.heap.size w wB := by rw [hwB]; exact (Below.refl _ _).alloc (Nat.le_refl _) _
  have c1 : wB.cell? ⟨w.heap.size, 0, none⟩ = some v := by rw [hwB]; simp
  have hlt : w.heap.size < wB.heap.size := World.block_lt_of_cell? _ _ c1
  have KO := Lib.hid (impl_GuessesOk p c v gs wB (h.below hb))
  have HB := Lib.hid hb
  have HL := Lib.hid hlt
  have HG := Lib.hid h
  obtain ⟨a, ca, rfl, _, _⟩ := h
  have HC1 := Lib.hid c1
  clear hb hlt
  cases hok : GOk p c gs with
  | false =>
    rw [hok] at KO
    have HF := Lib.hid (FC_no hok)
    clear hok
    go_enter Try.func30, Try.ntmps30
    go_wp2_with fail
    rw [← hwB]
    refine KO.out.mono ?_
    rintro e w1 ⟨rfl, hb1⟩
    have HB1 := Lib.hid (HB.out.trans (hb1.mono HB.out.size))
    clear hb1
    go_wp2_with fail
    go_ret
    exact ⟨⟨_, [], rfl, by rw [HF.out]; exact OwR.nil _ _⟩, HB1.out⟩
  | true =>
    rw [hok] at KO
    have HF := Lib.hid (FC_yes hok)
    obtain ⟨⟨⟨p1, p2⟩, c1', c2'⟩, _, hcs⟩ := GOk_is hok
    have HCS := Lib.hid hcs
    have HAC := Lib.hid (AC_ok p c)
    obtain ⟨p, rfl⟩ := Int.eq_ofNat_of_zero_le (show 0 ≤ p by omega)
    obtain ⟨c, rfl⟩ := Int.eq_ofNat_of_zero_le (show 0 ≤ c by omega)
    have hac := AC_yes (p := p) (c := c) (by omega) (by omega) (by omega) (by omega)
    rw [hac] at HF HAC
    have ka := Lib.hid (fun w => allRows_any p c (by omega) (by omega) (by omega) w)
    clear hok hcs hac
    go_enter Try.func30, Try.ntmps30
    go_wp2_with fail
    rw [← hwB]
    refine KO.out.mono ?_
    rintro e w1 ⟨rfl, hb1⟩
    have HB1 := Lib.hid (HB.out.trans (hb1.mono HB.out.size))
    have HC2 : Hid (w1.cell? ⟨w.heap.size, 0, none⟩ = some (.slice a gs.length ca)) := (hb1.cell (p := ⟨w.heap.size, 0, none⟩) HL.out).trans HC1.out
    have HL1 : Hid (w.heap.size < w1.heap.size) := Nat.lt_of_lt_of_le HL.out hb1.size
    clear hb1 KO c1 hwB HC1
    go_wp2_with fail
    refine (ka.out w1).mono ?_
    rintro e w2 ⟨⟨u, us, rfl, ho⟩, hb2⟩
    have HO := Lib.hid ho
    have HB2 := Lib.hid hb2
    have HB2' := Lib.hid (HB1.out.trans (hb2.mono HB1.out.size))
    have KD := Lib.hid (deleteR_any (fun r => !Fit p c gs r) u us (ext c p []) w.heap.size w1.heap.size w2 ho hb2.size (fun W u r b hr ⟨k, hk, e⟩ =>
      drop_any p c w.heap.size u _ r gs W (((hb2.trans b).cell (p := ⟨w.heap.size, 0, none⟩) HL1.out).trans HC2.out) hr ((HG.out.below HB1.out).below (hb2.trans b)) (by rw [e]; exact HAC.out k hk) HCS.out))
    clear ho hb2
    go_wp2_with fail
    refine KD.out.mono ?_
    rintro e w3 ⟨⟨u3, us3, rfl, ho3⟩, hb3⟩
    have HO3 := Lib.hid ho3
    have HB3 := Lib.hid (HB2'.out.trans (hb3.mono HB1.out.size))
    clear ho3 hb3 KD
    go_wp2_with fail
    go_ret
    refine ⟨⟨_, us3, rfl, ?_⟩, HB3.out⟩
    have := HO3.out.mono (Nat.le_of_lt HL1.out)
    simp only [Bool.not_not] at this
    rw [HF.out]
    exact this
end Go.Proofs.Ytkkjgcpkimjfkaa
