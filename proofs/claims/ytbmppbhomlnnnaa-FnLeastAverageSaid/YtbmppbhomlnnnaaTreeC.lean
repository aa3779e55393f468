/- Where a tree ends in a text (spec.l1End); a prefix cut off; the copy of a slice, as a row. -/
import Derived.Test.YtbmppbhomlnnnaaProg
import Derived.Test.YtbmppbhomlnnnaaSlices
import Derived.Test.YtbmppbhomlnnnaaTreeB
import Derived.WalkSpells
namespace Go.Proofs.Ytbmppbhomlnnnaa
open Go.RowKit

theorem drop_str (s : ByteArray) (i : Nat) (h : i < s.size) : s.data.toList.drop i = s[i] :: s.data.toList.drop (i + 1) := by
  rw [List.drop_eq_getElem_cons (by simpa using h)]
  rfl
theorem len_str (s : ByteArray) : s.data.toList.length = s.size := by cases s; rfl
theorem drop_end (s : ByteArray) (i : Nat) (h : ¬ i < s.size) : s.data.toList.drop i = [] := List.drop_eq_nil_of_le (by rw [len_str]; omega)
theorem u8_num {c : UInt8} {n : Nat} (h : c.toNat = n) (hn : n < 256) : c = UInt8.ofNat n := by
  apply UInt8.toNat_inj.1
  rw [h, UInt8.toNat_ofNat']
  omega

end Go.Proofs.Ytbmppbhomlnnnaa
