/- impl.routes: the answers to each letter of a tree. -/
import Derived.Test.YtanhdnbjepjhlaaProg
import Derived.Test.YtanhdnbjepjhlaaTreeD
import Derived.Test.YtanhdnbjepjhlaaGrow
namespace Go.Proofs.Ytanhdnbjepjhlaa
open Go.RowKit

def bkey (c : UInt8) : Value := .int .u8 ((c.toNat : Nat) : Int)
theorem bkey_inj (i j : UInt8) (h : bkey i = bkey j) : i = j := by
  unfold bkey at h
  injection h with _ h
  exact UInt8.toNat_inj.1 (by omega)
theorem bkey_of (c : UInt8) : keyOf Try.prog 5 (bkey c) = some (.int .u8 ((c.toNat : Nat) : Int)) :=
  Maps.keyOf_int_mk Try.underlying5 (WalkArith.wf_u8 (by have := c.toNat_lt; omega))
theorem YtanhdnbjepjhlaakeyU8 : Maps.Keyed Try.prog 5 := Maps.int_keyed Try.underlying5
theorem YtanhdnbjepjhlaazeroSl (w : World) : (zeroValue 23).run Try.prog w = .ok (.slice none 0 0) w := by kernel_rfl

/-- Block B is the map D, of m letters; its rows can be read. -/
def MM (w : World) (B m : Nat) (D : M) : Prop :=
  ∃ F : UInt8 → Option Value, MapAt Try.prog 5 bkey w B m F ∧ ∀ c, (F c).isSome = (D c).isSome ∧ ∀ v L, F c = some v → D c = some L → Rd w v L

theorem MM.below {w w' : World} {B m : Nat} {D : M} (h : MM w B m D) (b : Below w.heap.size w w') : MM w' B m D := by
  obtain ⟨F, h1, h2⟩ := h
  exact ⟨F, h1.kept (grownBy_any none b) (by simp), fun c => ⟨(h2 c).1, fun v L hv hL => ((h2 c).2 v L hv hL).below b⟩⟩
theorem MM.lt {w : World} {B m : Nat} {D : M} (h : MM w B m D) : B < w.heap.size := by
  obtain ⟨F, h1, _⟩ := h
  exact h1.lt
theorem Rd.overMap {w w' : World} {B m : Nat} {F : UInt8 → Option Value} {v : Value} {L : List Int} (h : Rd w v L) (hm : MapAt Try.prog 5 bkey w B m F) (g : w.grownBy w' (some B)) : Rd w' v L := by
  refine h.grown g ?_
  unfold blockOf
  split
  · exact .inl rfl
  · rename_i hn
    right
    obtain ⟨a, cap, rfl, hmx, hc⟩ := h
    obtain ⟨g', off, rfl, h1⟩ := hc hn
    intro e
    simp [Value.ownBlock] at e
    subst e
    have h0 := h1 0 (List.length_pos_iff.2 hn)
    rw [hm.no_cell] at h0
    cases h0
theorem Rd.overMM {w w' : World} {B m : Nat} {D : M} {v : Value} {L : List Int} (h : Rd w v L) (hm : MM w B m D) (g : w.grownBy w' (some B)) : Rd w' v L := by
  obtain ⟨F, h1, _⟩ := hm
  exact h.overMap h1 g
theorem MM.stored {w w' : World} {B m : Nat} {D : M} {F : UInt8 → Option Value} (h : MapAt Try.prog 5 bkey w B m F) (h2 : ∀ c, (F c).isSome = (D c).isSome ∧ ∀ v L, F c = some v → D c = some L → Rd w v L) (c : UInt8) (v : Value) (L : List Int) (hv : Rd w v L)
    (g : w.grownBy w' (some B)) (h' : MapAt Try.prog 5 bkey w' B (if (F c).isSome = true then m else m + 1) (fun j => if j = c then some v else F j)) :
    MM w' B (if (D c).isNone = true then m + 1 else m) (upd D c L) := by
  refine ⟨fun j => if j = c then some v else F j, ?_, fun d => ?_⟩
  · have e : (if (F c).isSome = true then m else m + 1) = (if (D c).isNone = true then m + 1 else m) := by
      rw [(h2 c).1]
      cases D c <;> simp
    rw [← e]
    exact h'
  · unfold upd
    by_cases e : d = c
    · simp only [if_pos e]
      refine ⟨rfl, fun v' L' e1 e2 => ?_⟩
      injection e1 with e1
      injection e2 with e2
      subst e1
      subst e2
      exact hv.overMap h g
    · simp only [if_neg e]
      exact ⟨(h2 d).1, fun v' L' e1 e2 => ((h2 d).2 v' L' e1 e2).overMap h g⟩

def RPost (x : RR) (B : Nat) (w : World) (e : Ending) (w' : World) : Prop :=
  ∃ s' : ByteArray, e = .returned (.tuple #[.string s', .bool x.ok]) ∧ s'.data.toList = x.rest ∧ MM w' B x.n x.D ∧ w.grownBy w' (some B)
theorem rpost_ok {x : RR} {s' : ByteArray} {b : Bool} {B : Nat} {w w' : World} (h1 : b = x.ok) (h2 : s'.data.toList = x.rest) (h3 : MM w' B x.n x.D) (h4 : w.grownBy w' (some B)) : RPost x B w (.returned (.tuple #[.string s', .bool b])) w' :=
  ⟨s', by rw [h1], h2, h3, h4⟩

set_option maxHeartbeats 1000000 in
theorem routes_leaf (s : ByteArray) (c : UInt8) (r : List UInt8) (hl : s.data.toList = c :: r) (hc : c ≠ 40) (hs : s.size ≤ 1000) (va : Value) (ans : List Int) (D : M) (m B : Nat) (w : World) (hans : Rd w va ans) (hal : ans.length ≤ 1000)
    (hM : MM w B m D) (hm : m ≤ 1000) :
    Calls Try.prog 33 #[.string s, va, .map (some B)] w (RPost ⟨r, low c && (D c).isNone, upd D c ans, if (D c).isNone = true then m + 1 else m⟩ B w) := by
  obtain ⟨X, hX⟩ : ∃ X : RR, X = ⟨r, low c && (D c).isNone, upd D c ans, if (D c).isNone = true then m + 1 else m⟩ := ⟨_, rfl⟩
  rw [← hX]
  have HX := Lib.hid hX
  clear hX
  have hz : 1 ≤ s.size := by rw [← len_str, hl]; simp
  have hz0 : 0 < s.size := hz
  have hs0 : s[0] = c := by
    have := drop_str s 0 hz0
    rw [List.drop_zero, hl] at this
    injection this with e _
    exact e.symm
  have hne : (s.toList == []) = false := by rw [ByteArray.toList_eq, hl]; rfl
  have hx : Hid ((s.extract 1 s.size).data.toList = r) := by show _ = _; rw [extract_one s hz, hl]; rfl
  have h40 : ((c.toNat : Int) != 40) = true := by
    rw [bne_iff_ne]; intro h
    exact hc (u8_num (n := 40) (by omega) (by omega))
  have HM := Lib.hid hM
  have HR := Lib.hid hans
  clear hl hc hM hans
  go_enter Try.func33, Try.ntmps33
  go_wp2_with fail
  go_quiet (fail)
  obtain ⟨F, hF, hFD⟩ := HM.out
  obtain ⟨r0, hr0⟩ : ∃ r0, (F c).getD (.slice none 0 0) = r0 := ⟨_, rfl⟩
  obtain ⟨b0, hb0⟩ : ∃ b0, (F c).isSome = b0 := ⟨_, rfl⟩
  have HFD := Lib.hid hFD
  have HB0 := Lib.hid hb0
  have HR0 := Lib.hid hr0
  clear hFD hb0 hr0
  go_wp2_with (first
    | (at_lookup; (refine wpList_look_ok _ rfl _ _ 53 rfl YtanhdnbjepjhlaakeyU8 Try.underlying53 (YtanhdnbjepjhlaazeroSl _) rfl hF c rfl (bkey_of c) HR0.out HB0.out ?_)))
  refine (clone_owns _ ans _ (show Rd (w.drewN _) va ans from HR.out) (by omega)).mono ?_
  rintro e w1 ⟨u1, rfl, hown1, hb1⟩
  have hF1 : MapAt Try.prog 5 bkey w1 B m F := (show MapAt Try.prog 5 bkey (w.drewN _) B m F from hF).kept (grownBy_any none hb1) (by simp)
  have HG1 := Lib.hid (show w.grownBy w1 (some B) from grownBy_any _ ((below_drewN (Below.refl w.heap.size w) _).trans hb1))
  have HV1 := Lib.hid (Ow.of_row hown1 (by simp only [maxLen]; omega)).rd
  have HFD1 := Lib.hid (fun c v L (h1 : F c = some v) (h2 : D c = some L) => ((HFD.out c).2 v L h1 h2).below ((below_drewN (Below.refl w.heap.size w) _).trans hb1))
  clear hF hown1 hb1
  have hmm : m < maxLen := by simp only [maxLen]; omega
  cases hlo : low c with
  | true =>
    have hl' := of_decide_eq_true hlo
    obtain ⟨h97, h122⟩ : (97 : Int) ≤ (c.toNat : Int) ∧ (c.toNat : Int) ≤ 122 := by omega
    have HB1 : Hid ((D c).isNone = !b0) := by show _ = _; rw [← HB0.out, (HFD.out c).1]; cases D c <;> rfl
    have HL := Lib.hid hlo
    clear hl' hlo
    go_wp2_with (first
      | (at_mapUpdate; (refine wpList_upd _ rfl _ _ _ 53 rfl YtanhdnbjepjhlaakeyU8 Try.underlying53 rfl hF1 hmm bkey_inj c u1 rfl rfl (bkey_of c) ?_); intro w2 hF2 hg2; have HF2 := Lib.hid hF2; clear hF2))
    go_ret2
    exact rpost_ok (by rw [HX.out, HL.out, HB1.out]; rfl) (by rw [HX.out]; exact hx.out) (by rw [HX.out]; exact MM.stored hF1 (fun d => ⟨(HFD.out d).1, fun v L h1 h2 => HFD1.out d v L h1 h2⟩) c u1 ans HV1.out hg2 HF2.out) (grownBy_then2 HG1.out hg2)
  | false =>
    have hl' := of_decide_eq_false hlo
    have HL := Lib.hid hlo
    clear hlo
    by_cases h97 : (c.toNat : Int) < 97
    · clear hl'
      go_wp2_with (first
        | (at_mapUpdate; (refine wpList_upd _ rfl _ _ _ 53 rfl YtanhdnbjepjhlaakeyU8 Try.underlying53 rfl hF1 hmm bkey_inj c u1 rfl rfl (bkey_of c) ?_); intro w2 hF2 hg2; have HF2 := Lib.hid hF2; clear hF2))
      go_ret2
      exact rpost_ok (by rw [HX.out, HL.out]; rfl) (by rw [HX.out]; exact hx.out) (by rw [HX.out]; exact MM.stored hF1 (fun d => ⟨(HFD.out d).1, fun v L h1 h2 => HFD1.out d v L h1 h2⟩) c u1 ans HV1.out hg2 HF2.out) (grownBy_then2 HG1.out hg2)
    · have h122 : 122 < (c.toNat : Int) := by omega
      have h97' : 97 ≤ (c.toNat : Int) := by omega
      clear hl' h97
      go_wp2_with (first
        | (at_mapUpdate; (refine wpList_upd _ rfl _ _ _ 53 rfl YtanhdnbjepjhlaakeyU8 Try.underlying53 rfl hF1 hmm bkey_inj c u1 rfl rfl (bkey_of c) ?_); intro w2 hF2 hg2; have HF2 := Lib.hid hF2; clear hF2))
      go_ret2
      exact rpost_ok (by rw [HX.out, HL.out]; rfl) (by rw [HX.out]; exact hx.out) (by rw [HX.out]; exact MM.stored hF1 (fun d => ⟨(HFD.out d).1, fun v L h1 h2 => HFD1.out d v L h1 h2⟩) c u1 ans HV1.out hg2 HF2.out) (grownBy_then2 HG1.out hg2)
end Go.Proofs.Ytanhdnbjepjhlaa
