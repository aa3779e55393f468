/- Trees in halves, both. -/
import Derived.Test.YtanhdnbjepjhlaaProg
import Derived.Test.YtanhdnbjepjhlaaBase
import Derived.Test.YtanhdnbjepjhlaaTree0
namespace Go.Proofs.Ytanhdnbjepjhlaa
open Go.RowKit

def halvesT : Nat → Nat → Nat → T
  | 0, a, _ => .leaf (letter a)
  | f + 1, a, b => if b = a + 1 then .leaf (letter a) else .node (halvesT f a (a + (b - a + 1) / 2)) (halvesT f (a + (b - a + 1) / 2) b)
theorem halvesT_len : ∀ (f a b : Nat), b - a ≤ f → a < b → (halvesT f a b).leaves.length = b - a
  | 0, a, b, h, h2 => by omega
  | f + 1, a, b, h, h2 => by
    rw [halvesT]
    split
    · rename_i e; subst e; simp [T.leaves]
    · rename_i e
      have h3 := halvesT_len f a (a + (b - a + 1) / 2) (by omega) (by omega)
      have h4 := halvesT_len f (a + (b - a + 1) / 2) b (by omega) (by omega)
      simp only [T.leaves, List.length_append]
      omega
theorem str_of_list {s : ByteArray} {l : List UInt8} (h : s.data.toList = l) : s = ⟨l.toArray⟩ := by
  subst h
  cases s
  simp
theorem enc_letter (a : Nat) (h : a < 26) : (Utf8.encode (97 + (a : Int))).data.toList = [letter a] := by
  have h1 : (97 + (a : Int)).toNat = 97 + a := by omega
  have h2 : Utf8.valid (97 + (a : Int)) = true := by rw [validRune_eq]; unfold validRune; exact decide_eq_true (.inl ⟨by omega, by omega⟩)
  unfold Utf8.encode
  simp only [h2, if_true, h1]
  rw [if_pos (by omega)]
  rfl

end Go.Proofs.Ytanhdnbjepjhlaa
