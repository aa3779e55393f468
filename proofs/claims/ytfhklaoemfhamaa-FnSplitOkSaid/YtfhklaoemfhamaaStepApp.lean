/- 'append(out, x)' of one number at a step of a region that draws its order. -/
import Derived.Test.YtfhklaoemfhamaaProg
import Derived.Test.YtfhklaoemfhamaaSlices
import Derived.Deep.AppendLies
import Derived.Deep.RegionHeld3
namespace Go.Proofs.Ytfhklaoemfhamaa
open Go.RowKit

theorem step_append_int (w : World) {W : World} {ops : Array Oper} {o : Oper} {a : Act} {K : Act → World → Prop} {Q : Exit → Act → World → Prop} {E : Prop} (hgd : o.guard = none) (s x : Operand)
    (ho : o.op = .call { callee := .builtin .append, args := #[s, x], argTypes := #[22, 22] })
    (base : Nat) (v : Value) (L : List Int) (F : Int) (hown : w.ownsRow base 3 1 v L.length (L.map (Value.int .i64))) (hs : a.eval s = v) (hx : a.eval x = .slice (some ⟨w.heap.size, 0, none⟩) 1 1)
    (hL : L.length < 1000000000) (hb : base ≤ w.heap.size) (hW : Below w.heap.size w W) (hsz : W.heap.size = w.heap.size + 1) (hnew : W.heap[w.heap.size]? = some (.cells #[.int .i64 F] 3 (0, 0)))
    (h : ∀ v' w', w'.ownsRow base 3 1 v' (L ++ [F]).length ((L ++ [F]).map (Value.int .i64)) → Below base w w' → K (a.put o.dst v') w') :
    if Region.wanted o (yielded ops a.tmps) = true then Oper.wp Try.prog o a W K Q else E := by
  obtain ⟨i0, hi, hz0, hz1, hz2⟩ := info_parts YtfhklaoemfhamaainfoInt
  have hown' : W.ownsRow base 3 1 v L.length (L.map (Value.int .i64)) := owns_below hown hW
  refine step_append_lies (w := W) hgd s x 22 ho base 3 i0 (.int .i64 0) 1 8 Try.underlying22 hi hz0 hz1 hz2 rfl (by decide) v L.length _ hs hown' ⟨w.heap.size, 0, none⟩ 1 1 [.int .i64 F] hx rfl (World.news_of_block (cs := #[.int .i64 F]) hnew) ?_ (by omega) ?_ ?_ ?_ (w.heap.size + 1) hsz ?_
  · intro u hu; simp at hu; subst hu; rfl
  · simp only [maxLen]; omega
  · omega
  · omega
  · intro g cap w' h1 h2 _ _
    refine h _ w' ?_ ?_
    · simpa using h1
    · exact (hW.mono hb).trans ((Below.refl base W).grown h2 (by omega) (fun k hk => (hown'.lt k hk).1))
end Go.Proofs.Ytfhklaoemfhamaa
