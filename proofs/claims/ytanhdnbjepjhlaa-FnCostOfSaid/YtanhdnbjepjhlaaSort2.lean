/- slices.Sort, of at most twelve numbers. -/
import Derived.Test.YtanhdnbjepjhlaaProg
import Derived.Test.YtanhdnbjepjhlaaSort1
namespace Go.Proofs.Ytanhdnbjepjhlaa
open Go.RowKit

set_option maxHeartbeats 1000000 in
theorem pdq_any (g off cap n : Nat) (xs : List Int) (k : Int) (base : Nat) (w : World) (hn : xs.length = n) (hn2 : n ≤ 12) (h : OwL w base g off cap xs) :
    Calls Try.prog 31 #[.slice (some ⟨g, off, none⟩) n cap, .int .i64 0, .int .i64 n, .int .i64 k] w fun e w' => (∃ v, e = .returned v) ∧ OwL w' base g off cap (isort xs) ∧ Below base w w' := by
  have ki := Lib.hid (insertion_any g off cap n xs base w hn hn2 h)
  clear h hn
  go_enter Try.func31, Try.ntmps31
  go_wp2_with fail
  refine wp_loop_rounds 1 ?_
  rw [rounds_succ]
  go_wp2_with fail
  refine ki.out.mono ?_
  rintro e w1 ⟨⟨v, rfl⟩, ho, hb⟩
  go_wp2_with fail
  refine bodyPost_ret (results_none rfl _ _ _) rfl ?_
  exact ⟨⟨_, rfl⟩, ho, hb⟩

set_option maxHeartbeats 1000000 in
theorem len64_any (x : Int) (h0 : 0 ≤ x) (h1 : x ≤ 12) (w : World) : Calls Try.prog 46 #[.int .u64 x] w fun e w' => (∃ k : Int, e = .returned (.int .i64 k)) ∧ w = w' := by
  have hS := Lib.len8tab_size
  go_enter Try.func46, Try.ntmps46
  conv in (ByteArray.mk _) =>
    tactic => (refine (?_ : _ = Lib.len8tab); kernel_rfl)
  generalize Lib.len8tab = S at hS ⊢
  have h2 : x < 4294967296 := by omega
  have h3 : x < 65536 := by omega
  have h4 : x < 256 := by omega
  have h5 : x < (S.size : Int) := by omega
  clear hS
  go_wp2_with fail
  go_ret
  exact ⟨⟨_, rfl⟩, rfl⟩
set_option maxHeartbeats 1000000 in
theorem len_any (x : Int) (h0 : 0 ≤ x) (h1 : x ≤ 12) (w : World) : Calls Try.prog 32 #[.int .u64 x] w fun e w' => (∃ k : Int, e = .returned (.int .i64 k)) ∧ w = w' := by
  have kl := Lib.hid (len64_any x h0 h1)
  go_enter Try.func32, Try.ntmps32
  go_wp2_with fail
  refine (kl.out _).mono ?_
  rintro e w' ⟨⟨k, rfl⟩, rfl⟩
  go_wp2_with fail
  go_ret
  exact ⟨⟨_, rfl⟩, rfl⟩
set_option maxHeartbeats 1000000 in
theorem sort_any (g off cap n : Nat) (xs : List Int) (base : Nat) (w : World) (hn : xs.length = n) (hn2 : n ≤ 12) (h : OwL w base g off cap xs) :
    Calls Try.prog 23 #[.slice (some ⟨g, off, none⟩) n cap] w fun e w' => (∃ v, e = .returned v) ∧ OwL w' base g off cap (isort xs) ∧ Below base w w' := by
  have kl := Lib.hid (len_any n (by omega) (by omega))
  have kp := Lib.hid (fun k => pdq_any g off cap n xs k base w hn hn2 h)
  clear h hn
  go_enter Try.func23, Try.ntmps23
  go_wp2_with fail
  refine (kl.out _).mono ?_
  rintro e w' ⟨⟨k, rfl⟩, rfl⟩
  go_wp2_with fail
  refine (kp.out _).mono ?_
  rintro e w1 ⟨⟨v, rfl⟩, ho, hb⟩
  go_wp2_with fail
  go_end0
  exact ⟨⟨_, rfl⟩, ho, hb⟩
end Go.Proofs.Ytanhdnbjepjhlaa
