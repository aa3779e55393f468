/- impl.allIn: whether all numbers of a slice are in a range. -/
import Derived.Test.YtkkjgcpkimjfkaaProg
import Derived.Test.YtkkjgcpkimjfkaaSlices
namespace Go.Proofs.Ytkkjgcpkimjfkaa
open Go.RowKit

theorem bad_yes (n lo hi : Int) (b1 b2 : Nat) (w : World) (h1 : w.cell? ⟨b1, 0, none⟩ = some (.int .i64 lo)) (h2 : w.cell? ⟨b2, 0, none⟩ = some (.int .i64 hi)) (h : n < lo ∨ hi < n) :
    Calls Try.prog 65 #[.int .i64 n, .pointer (some ⟨b1, 0, none⟩), .pointer (some ⟨b2, 0, none⟩)] w fun e w' => e = .returned (.bool true) ∧ w = w' := by
  go_enter Try.func65, Try.ntmps65
  go_wp2_with (first | (go_at_call 63; refine (in_no _ _ _ _ (by omega)).mono ?_; rintro e w' ⟨rfl, rfl⟩))
  go_ret
  exact ⟨rfl, rfl⟩
theorem bad_no (n lo hi : Int) (b1 b2 : Nat) (w : World) (h1 : w.cell? ⟨b1, 0, none⟩ = some (.int .i64 lo)) (h2 : w.cell? ⟨b2, 0, none⟩ = some (.int .i64 hi)) (h3 : lo ≤ n) (h4 : n ≤ hi) :
    Calls Try.prog 65 #[.int .i64 n, .pointer (some ⟨b1, 0, none⟩), .pointer (some ⟨b2, 0, none⟩)] w fun e w' => e = .returned (.bool false) ∧ w = w' := by
  go_enter Try.func65, Try.ntmps65
  go_wp2_with (first | (go_at_call 63; refine (in_yes _ _ _ _ (by omega) (by omega)).mono ?_; rintro e w' ⟨rfl, rfl⟩))
  go_ret
  exact ⟨rfl, rfl⟩

set_option maxHeartbeats 400000 in
theorem index_none (v : Value) (xs : List Int) (lo hi : Int) (b1 b2 : Nat) (w : World) (h : Rd w v xs) (h1 : w.cell? ⟨b1, 0, none⟩ = some (.int .i64 lo)) (h2 : w.cell? ⟨b2, 0, none⟩ = some (.int .i64 hi)) (hall : ∀ x ∈ xs, lo ≤ x ∧ x ≤ hi) :
    Calls Try.prog 73 #[v, .func (Fn.func 65) #[] #[.pointer (some ⟨b1, 0, none⟩), .pointer (some ⟨b2, 0, none⟩)]] w fun e w' => e = .returned (.int .i64 (-1)) ∧ w = w' := by
  obtain ⟨a, ca, rfl, hm, ha⟩ := h
  unfold maxLen at hm
  have HA := Lib.hid ha
  have HL := Lib.hid hall
  clear ha hall
  go_enter Try.func73, Try.ntmps73
  go_wp2_with fail
  go_loop [8] (fun q => ∃ k : Nat, k ≤ xs.length ∧ q = .int .i64 k) (fun q => xs.length - (intOf q).toNat)
  case atStart => exact ⟨0, by omega, rfl⟩
  case round =>
    obtain ⟨k, hk, rfl⟩ := hrel
    by_cases hlt : k < xs.length
    · have hne : xs ≠ [] := by intro e; rw [e] at hlt; simp at hlt
      obtain ⟨g, off, rfl, hc⟩ := HA.out hne
      have hck := hc k hlt
      obtain ⟨x1, x2⟩ := HL.out (xs.getD k 0) (by rw [List.getD_eq_getElem?_getD, List.getElem?_eq_getElem hlt]; exact List.getElem_mem hlt)
      generalize xs.getD k 0 = x at *
      have hi0 : (0 : Int) ≤ (k : Int) := by omega
      have hi1 : (k : Int) < (xs.length : Int) := by omega
      clear hc hne
      go_wp2_with (first | (go_at_call 65; refine (bad_no _ lo hi _ _ _ h1 h2 (by omega) (by omega)).mono ?_; rintro e w' ⟨rfl, rfl⟩))
      go_round
      case rel => exact ⟨k + 1, by omega, by go_num⟩
      case measure => simp [intOf]; omega
    · go_wp2_with fail
      go_ret
      exact ⟨rfl, rfl⟩

set_option maxHeartbeats 400000 in
theorem index_some (v : Value) (xs : List Int) (lo hi : Int) (b1 b2 : Nat) (w : World) (h : Rd w v xs) (h1 : w.cell? ⟨b1, 0, none⟩ = some (.int .i64 lo)) (h2 : w.cell? ⟨b2, 0, none⟩ = some (.int .i64 hi)) (hbad : ¬ ∀ x ∈ xs, lo ≤ x ∧ x ≤ hi) :
    Calls Try.prog 73 #[v, .func (Fn.func 65) #[] #[.pointer (some ⟨b1, 0, none⟩), .pointer (some ⟨b2, 0, none⟩)]] w fun e w' => (∃ k : Nat, e = .returned (.int .i64 k)) ∧ w = w' := by
  obtain ⟨a, ca, rfl, hm, ha⟩ := h
  unfold maxLen at hm
  have HA := Lib.hid ha
  have HB := Lib.hid hbad
  clear ha hbad
  go_enter Try.func73, Try.ntmps73
  go_wp2_with fail
  go_loop [8] (fun q => ∃ k : Nat, k ≤ xs.length ∧ q = .int .i64 k ∧ Hid (∀ j, j < k → lo ≤ xs.getD j 0 ∧ xs.getD j 0 ≤ hi)) (fun q => xs.length - (intOf q).toNat)
  case atStart => exact ⟨0, by omega, rfl, fun j hj => by omega⟩
  case round =>
    obtain ⟨k, hk, rfl, HP⟩ := hrel
    by_cases hlt : k < xs.length
    · have hne : xs ≠ [] := by intro e; rw [e] at hlt; simp at hlt
      obtain ⟨g, off, rfl, hc⟩ := HA.out hne
      have hck := hc k hlt
      have hi0 : (0 : Int) ≤ (k : Int) := by omega
      have hi1 : (k : Int) < (xs.length : Int) := by omega
      clear hc hne
      by_cases hok : lo ≤ xs.getD k 0 ∧ xs.getD k 0 ≤ hi
      · have HP2 : Hid (∀ j, j < k + 1 → lo ≤ xs.getD j 0 ∧ xs.getD j 0 ≤ hi) := by
          intro j hj
          by_cases e : j = k
          · rw [e]; exact hok
          · exact HP.out j (by omega)
        generalize xs.getD k 0 = x at hck hok
        obtain ⟨x1, x2⟩ := hok
        clear HP
        go_wp2_with (first | (go_at_call 65; refine (bad_no _ lo hi _ _ _ h1 h2 (by omega) (by omega)).mono ?_; rintro e w' ⟨rfl, rfl⟩))
        go_round
        case rel => exact ⟨k + 1, by omega, by go_num, HP2⟩
        case measure => simp [intOf]; omega
      · have hok2 : xs.getD k 0 < lo ∨ hi < xs.getD k 0 := by omega
        clear hok
        generalize xs.getD k 0 = x at hck hok2
        clear HP
        go_wp2_with (first | (go_at_call 65; refine (bad_yes _ lo hi _ _ _ h1 h2 (by omega)).mono ?_; rintro e w' ⟨rfl, rfl⟩))
        go_ret
        exact ⟨⟨k, rfl⟩, rfl⟩
    · exfalso
      have hke : k = xs.length := by omega
      subst hke
      refine HB.out (fun x hx => ?_)
      obtain ⟨j, hj, rfl⟩ := List.mem_iff_getElem.1 hx
      have := HP.out j hj
      rwa [List.getD_eq_getElem?_getD, List.getElem?_eq_getElem hj] at this

theorem contains_no (v : Value) (xs : List Int) (lo hi : Int) (b1 b2 : Nat) (w : World) (h : Rd w v xs) (h1 : w.cell? ⟨b1, 0, none⟩ = some (.int .i64 lo)) (h2 : w.cell? ⟨b2, 0, none⟩ = some (.int .i64 hi)) (hall : ∀ x ∈ xs, lo ≤ x ∧ x ≤ hi) :
    Calls Try.prog 64 #[v, .func (Fn.func 65) #[] #[.pointer (some ⟨b1, 0, none⟩), .pointer (some ⟨b2, 0, none⟩)]] w fun e w' => e = .returned (.bool false) ∧ w = w' := by
  have k := Lib.hid (index_none v xs lo hi b1 b2 w h h1 h2 hall)
  clear hall h h1 h2
  go_enter Try.func64, Try.ntmps64
  go_wp2_with (first | (go_at_call 73; (with_reducible refine k.out.mono ?_); rintro e w' ⟨rfl, rfl⟩))
  go_ret
  exact ⟨rfl, rfl⟩
theorem contains_yes (v : Value) (xs : List Int) (lo hi : Int) (b1 b2 : Nat) (w : World) (h : Rd w v xs) (h1 : w.cell? ⟨b1, 0, none⟩ = some (.int .i64 lo)) (h2 : w.cell? ⟨b2, 0, none⟩ = some (.int .i64 hi)) (hbad : ¬ ∀ x ∈ xs, lo ≤ x ∧ x ≤ hi) :
    Calls Try.prog 64 #[v, .func (Fn.func 65) #[] #[.pointer (some ⟨b1, 0, none⟩), .pointer (some ⟨b2, 0, none⟩)]] w fun e w' => e = .returned (.bool true) ∧ w = w' := by
  have k := Lib.hid (index_some v xs lo hi b1 b2 w h h1 h2 hbad)
  clear hbad h h1 h2
  go_enter Try.func64, Try.ntmps64
  go_wp2_with (first | (go_at_call 73; (with_reducible refine k.out.mono ?_); rintro e w' ⟨⟨i, rfl⟩, rfl⟩; have hi0 : (0 : Int) ≤ (i : Int) := by omega))
  go_ret
  exact ⟨rfl, rfl⟩

/-- whether all numbers are in a range -/
def AllB (lo hi : Int) (xs : List Int) : Bool := decide (∀ x ∈ xs, lo ≤ x ∧ x ≤ hi)

theorem allIn_any (v : Value) (xs : List Int) (lo hi : Int) (w : World) (h : Rd w v xs) :
    Calls Try.prog 43 #[v, .int .i64 lo, .int .i64 hi] w fun e w' => e = .returned (.bool (AllB lo hi xs)) ∧ Below w.heap.size w w' := by
  have hb : ∀ o1 o2, Below w.heap.size w ((w.alloc o1).alloc o2) := fun o1 o2 => ((Below.refl _ _).alloc (Nat.le_refl _) _).alloc (by simp) _
  have HB := Lib.hid hb
  have H := Lib.hid h
  clear hb h
  by_cases hall : ∀ x ∈ xs, lo ≤ x ∧ x ≤ hi
  · have e : AllB lo hi xs = true := decide_eq_true hall
    rw [e]
    have k := Lib.hid (contains_no v xs lo hi w.heap.size (w.heap.size + 1) ((w.alloc (.cells #[.int .i64 lo] 3)).alloc (.cells #[.int .i64 hi] 3)) (H.out.below (HB.out _ _)) (by simp) (by simp) hall)
    clear hall e
    go_enter Try.func43, Try.ntmps43
    go_wp2_with (first | (go_at_call 64; (with_reducible refine k.out.mono ?_); rintro e w' ⟨rfl, rfl⟩))
    go_ret
    exact ⟨rfl, HB.out _ _⟩
  · have e : AllB lo hi xs = false := decide_eq_false hall
    rw [e]
    have k := Lib.hid (contains_yes v xs lo hi w.heap.size (w.heap.size + 1) ((w.alloc (.cells #[.int .i64 lo] 3)).alloc (.cells #[.int .i64 hi] 3)) (H.out.below (HB.out _ _)) (by simp) (by simp) hall)
    clear hall e
    go_enter Try.func43, Try.ntmps43
    go_wp2_with (first | (go_at_call 64; (with_reducible refine k.out.mono ?_); rintro e w' ⟨rfl, rfl⟩))
    go_ret
    exact ⟨rfl, HB.out _ _⟩
end Go.Proofs.Ytkkjgcpkimjfkaa
