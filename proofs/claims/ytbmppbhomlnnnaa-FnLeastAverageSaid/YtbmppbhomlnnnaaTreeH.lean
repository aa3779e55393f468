/- spec.TreeOk. -/
import Derived.Test.YtbmppbhomlnnnaaProg
import Derived.Test.YtbmppbhomlnnnaaTreeC
namespace Go.Proofs.Ytbmppbhomlnnnaa
open Go.RowKit

theorem take_succ_str (s : ByteArray) (k : Nat) (h : k < s.size) : s.data.toList.take (k + 1) = s.data.toList.take k ++ [s[k]] := by
  rw [List.take_succ_eq_append_getElem (by rw [len_str]; exact h)]
  rfl
theorem many_snoc (c d : UInt8) (l : List UInt8) : many c (l ++ [d]) = many c l + if d = c then 1 else 0 := by
  unfold many
  rw [List.countP_append]
  by_cases h : d = c <;> simp [h]
def lows (l : List UInt8) : Nat := l.countP low
theorem lows_snoc (d : UInt8) (l : List UInt8) : lows (l ++ [d]) = lows l + if low d = true then 1 else 0 := by
  unfold lows
  rw [List.countP_append]
  by_cases h : low d = true <;> simp [h]
theorem lows_le (l : List UInt8) : lows l ≤ l.length := List.countP_le_length
theorem many_le (c : UInt8) (l : List UInt8) : many c l ≤ l.length := List.countP_le_length
theorem lows_text (t : T) (h : t.okL) : lows t.text = t.leaves.length := by
  unfold lows
  rw [List.countP_eq_length_filter, filter_low t h]

theorem TO_end {n : Int} {s : ByteArray} {t : T} (h : TO n s.data.toList = some t) : endI s.data.toList 0 = (s.size : Int) := by
  have h1 := (TO_some.1 h).2.1
  obtain ⟨e1, _, e3⟩ := endI_some (s := s.data.toList) (i := 0) (by rw [List.drop_zero]; exact h1)
  rw [e1]
  rw [len_str] at e3
  simp at e3 ⊢
  omega
theorem end_tree {s : ByteArray} (h : endI s.data.toList 0 = (s.size : Int)) : ∃ t, P s.data.toList = some (t, []) := by
  cases h1 : P s.data.toList with
  | none =>
    rw [endI_none (by rw [List.drop_zero]; exact h1)] at h
    omega
  | some x =>
    obtain ⟨t, r⟩ := x
    obtain ⟨e1, _, e3⟩ := endI_some (s := s.data.toList) (i := 0) (by rw [List.drop_zero]; exact h1)
    rw [h] at e1
    rw [len_str] at e3
    have : r = [] := List.eq_nil_of_length_eq_zero (by omega)
    subst this
    exact ⟨t, rfl⟩

def TB (n : Int) (l : List UInt8) : Bool := (TO n l).isSome
theorem TB_no {n : Int} {l : List UInt8} (h : ∀ t, TO n l ≠ some t) : TB n l = false := by
  unfold TB
  cases e : TO n l with
  | none => rfl
  | some t => exact absurd e (h t)
def BPost (b : Bool) (w : World) (e : Ending) (w' : World) : Prop := e = .returned (.bool b) ∧ Below w.heap.size w w'

end Go.Proofs.Ytbmppbhomlnnnaa
