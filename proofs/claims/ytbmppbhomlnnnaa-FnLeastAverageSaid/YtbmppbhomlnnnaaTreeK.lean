/- spec.DepthsOf, the law FnExactDepthsOf. -/
import Derived.Test.YtbmppbhomlnnnaaProg
import Derived.Test.YtbmppbhomlnnnaaTreeI
namespace Go.Proofs.Ytbmppbhomlnnnaa
open Go.RowKit

/-- the scan of the first k bytes -/
def sc (l : List UInt8) (k : Nat) : Int × (UInt8 → Int) := (l.take k).foldl scan (0, fun _ => 0)
theorem sc_succ (s : ByteArray) (k : Nat) (h : k < s.size) : sc s.data.toList (k + 1) = scan (sc s.data.toList k) s[k] := by
  unfold sc
  rw [take_succ_str s k h, List.foldl_append]
  rfl
theorem sc_bd (l : List UInt8) (k : Nat) : -(k : Int) ≤ (sc l k).1 ∧ (sc l k).1 ≤ k := by
  have h := scan_bd (l.take k) (0, fun _ => 0)
  have h2 : (l.take k).length ≤ k := List.length_take_le _ _
  unfold sc
  simp only at h
  omega
theorem text_mem {t : T} (h : t.okL) {c : UInt8} (hc : c ∈ t.text) : c = 40 ∨ c = 41 ∨ c ∈ t.leaves := by
  induction t with
  | leaf d => simp [T.text] at hc; right; right; simp [T.leaves, hc]
  | node a b iha ihb =>
    obtain ⟨ha, hb⟩ := okL_node.1 h
    simp only [T.text, List.mem_cons, List.mem_append] at hc
    rcases hc with h | h | h | h | h
    · exact .inl h
    · rcases iha ha h with h | h | h
      · exact .inl h
      · exact .inr (.inl h)
      · exact .inr (.inr (by simp [T.leaves, h]))
    · rcases ihb hb h with h | h | h
      · exact .inl h
      · exact .inr (.inl h)
      · exact .inr (.inr (by simp [T.leaves, h]))
    · exact .inr (.inl h)
    · cases h

/-- a slice with a row of its own -/
def SPost (L : List Int) (w : World) (e : Ending) (w' : World) : Prop := ∃ v, e = .returned v ∧ Ow w' w.heap.size v L ∧ Below w.heap.size w w'

end Go.Proofs.Ytbmppbhomlnnnaa
