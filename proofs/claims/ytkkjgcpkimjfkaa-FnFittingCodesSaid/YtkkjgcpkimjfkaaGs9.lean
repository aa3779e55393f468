/- The law FnGuessesOk. -/
import Derived.Test.YtkkjgcpkimjfkaaProg
import Derived.Test.YtkkjgcpkimjfkaaGs8
import Derived.Test.YtkkjgcpkimjfkaaAlive
namespace Go.Proofs.Ytkkjgcpkimjfkaa
open Go.RowKit

def DrawnGs (w : World) (e : Ending) (w' : World) : Prop :=
  ∃ (P C : Int) (v : Value) (T : List (Value × Gs)), e = .returned (.tuple #[.int .i64 P, .int .i64 C, v]) ∧ DG w' w.heap.size v T ∧ T.length ≤ 4 ∧ Below w.heap.size w w'

set_option maxHeartbeats 1000000 in
theorem draw_GuessesOk (a : Option Addr) (len cap : Nat) (w : World) (h : Code8 w a len cap) :
    Calls Try.prog 38 #[.slice a len cap] w (DrawnGs w) := by
  go_enter Try.func38, Try.ntmps38
  go_wp2_with fail
  refine (open_any a len cap w h).mono ?_
  rintro e w1 ⟨rfl, hr, hb⟩
  have hrU := hr.toU
  clear hr
  go_wp2_with fail
  refine (guessing_any w.heap.size 0 3 (by omega) (by omega) (by omega) w1 hrU).mono ?_
  rintro e w2 ⟨P, C, v, T, rfl, hD, hT, hg⟩
  go_wp2_with fail
  refine bodyPost_ret (v := .tuple #[.int .i64 P, .int .i64 C, v]) (by simp [results, Try.results38, go_sem]) rfl ?_
  have hlow : Below w.heap.size w1 w2 := below_of_grownBy hg hb.size (Nat.le_refl _)
  exact ⟨P, C, v, T, rfl, ⟨hD.own.mono hb.size, fun t ht => (hD.row t ht).mono hb.size, hD.sep⟩, hT, hb.trans hlow⟩

theorem GOk_none {p c : Int} {gs : List Gs} (h : GOk p c gs = true) : GOk p c [] = true := by
  unfold GOk at h ⊢
  simp only [Bool.and_eq_true] at h
  rw [h.1]; rfl
theorem GOk_01 : GOk 0 1 [] = false := rfl

theorem impl_GO {p c : Int} {gs : List Gs} {b : Bool} (e : GOk p c gs = b) (v : Value) (w : World) (h : RdG w v gs) :
    Calls Try.prog 27 #[.int .i64 p, .int .i64 c, v] w fun e w' => e = .returned (.bool b) ∧ Below w.heap.size w w' := by
  rw [← e]; exact impl_GuessesOk p c v gs w h

set_option maxHeartbeats 2000000 in
theorem law_FnGuessesOk (a0 : Option Addr) (len0 cap0 : Nat) (z0 : List Int) (w : World) (w0 : IsRow .u8 w a0 len0 cap0 z0) :
    Calls Try.prog 11 #[.slice a0 len0 cap0] w fun e w' => e = .returned (.bool true) ∧ Below w.heap.size w w' := by
  have hc := Code8.of_row w0
  clear w0
  by_cases hl : 1048576 < len0
  · go_enter Try.func11, Try.ntmps11
    go_wp2_with fail
    go_ret
    exact ⟨rfl, Below.refl _ _⟩
  · go_enter Try.func11, Try.ntmps11
    go_wp2_with fail
    refine (draw_GuessesOk _ _ _ _ hc).mono ?_
    rintro e w1 ⟨P, C, v, T, rfl, hD, hT, hb1⟩
    have hrd := hD.rd (by simp only [maxLen]; omega)
    generalize T.map (·.2) = gs at *
    have k0 := Lib.hid (fun w' : World => impl_GO GOk_01 (.slice none 0 0) w' (RdG.nil _ _ _))
    have B1 := Lib.hid hb1
    clear hc hD hT hb1
    cases hk : GOk P C gs with
    | false =>
      have k1 := Lib.hid (impl_GO hk v w1 hrd)
      have k2 := Lib.hid (fun w' (b : Below w1.heap.size w1 w') => spec_GuessesOk P C v gs w' (hrd.below b))
      rw [hk] at k2
      clear hk hrd
      go_wp2_with (first
        | (go_at_call 27; (with_reducible refine k1.out.mono ?_); rintro e w2 ⟨rfl, hb2⟩)
        | (go_at_call 25; (with_reducible refine (k2.out _ hb2).mono ?_); rintro e w3 ⟨rfl, hb3⟩; have n3 := below_call hb2 (Nat.le_refl _) hb3; clear hb3)
        | (go_at_call 27; (with_reducible refine (k0.out _).mono ?_); rintro e w6 ⟨rfl, hb6⟩; have n6 := below_call n3 (Nat.le_refl _) hb6; clear hb6)
        | (go_at_call 33; refine (alive_any _).mono ?_; rintro e w7 ⟨rfl, rfl⟩))
      go_ret
      exact ⟨rfl, below_call B1.out (Nat.le_refl _) n6⟩
    | true =>
      have k1 := Lib.hid (impl_GO hk v w1 hrd)
      have k2 := Lib.hid (fun w' (b : Below w1.heap.size w1 w') => spec_GuessesOk P C v gs w' (hrd.below b))
      have kz := Lib.hid (fun w' : World => impl_GO (GOk_none hk) (.slice none 0 0) w' (RdG.nil _ _ _))
      rw [hk] at k2
      clear hk hrd
      go_wp2_with (first
        | (go_at_call 27; (with_reducible refine k1.out.mono ?_); rintro e w2 ⟨rfl, hb2⟩)
        | (go_at_call 25; (with_reducible refine (k2.out _ hb2).mono ?_); rintro e w3 ⟨rfl, hb3⟩; have n3 := below_call hb2 (Nat.le_refl _) hb3; clear hb3)
        | (go_at_call 27; (with_reducible refine (kz.out _).mono ?_); rintro e w5 ⟨rfl, hb5⟩; have n5 := below_call n3 (Nat.le_refl _) hb5; clear hb5)
        | (go_at_call 27; (with_reducible refine (k0.out _).mono ?_); rintro e w6 ⟨rfl, hb6⟩; have n6 := below_call n5 (Nat.le_refl _) hb6; clear hb6)
        | (go_at_call 33; refine (alive_any _).mono ?_; rintro e w7 ⟨rfl, rfl⟩))
      go_ret
      exact ⟨rfl, below_call B1.out (Nat.le_refl _) n6⟩
end Go.Proofs.Ytkkjgcpkimjfkaa
