/- Slices of guesses: read ('RdG'); an argument opened. -/
import Derived.Test.YtkkjgcpkimjfkaaProg
import Derived.Test.YtkkjgcpkimjfkaaSlices
import Derived.Deep.Slices
import Derived.Deep.Fields
import Derived.ChangeSame
namespace Go.Proofs.Ytkkjgcpkimjfkaa
open Go.RowKit Go.ChangeShapes Go.WideShapes Go.Deep

/-- a guess: its code, and its answer -/
structure Gs where
  code : List Int
  right : Int
  near : Int
def gNil : Gs := ⟨[], 0, 0⟩

/-- v is a slice of guesses, which can be read in w. -/
def RdG (w : World) (v : Value) (gs : List Gs) : Prop :=
  ∃ a cap, v = .slice a gs.length cap ∧ gs.length ≤ maxLen ∧ (gs ≠ [] → ∃ g off, a = some ⟨g, off, none⟩ ∧ ∀ j, j < gs.length → ∃ u, w.cell? ⟨g, off + j * 3, none⟩ = some u ∧ Rd w u (gs.getD j gNil).code ∧
    w.cell? ⟨g, off + j * 3 + 1, none⟩ = some (.int .i64 (gs.getD j gNil).right) ∧ w.cell? ⟨g, off + j * 3 + 2, none⟩ = some (.int .i64 (gs.getD j gNil).near))

theorem RdG.below {w w' : World} {v : Value} {gs : List Gs} (h : RdG w v gs) (b : Below w.heap.size w w') : RdG w' v gs := by
  obtain ⟨a, cap, e, hm, h⟩ := h
  refine ⟨a, cap, e, hm, fun hn => ?_⟩
  obtain ⟨g, off, e1, h1⟩ := h hn
  refine ⟨g, off, e1, fun j hj => ?_⟩
  obtain ⟨u, hc, hr, h2, h3⟩ := h1 j hj
  have hg := World.block_lt_of_cell? w _ hc
  exact ⟨u, (b.cell (p := ⟨g, off + j * 3, none⟩) hg).trans hc, hr.below b, (b.cell (p := ⟨g, off + j * 3 + 1, none⟩) hg).trans h2, (b.cell (p := ⟨g, off + j * 3 + 2, none⟩) hg).trans h3⟩
theorem RdG.nil (w : World) (a : Option Addr) (cap : Nat) : RdG w (.slice a 0 cap) [] := ⟨a, cap, rfl, by simp [maxLen], fun h => absurd rfl h⟩

theorem open_guesses {H : Type} {enc : TypeId × Value → H} {W : World} {fuel : Nat} {a : Option Addr} {len cap : Nat} {x : DataW H × List MemPlace}
    (h : DataW.trod enc Try.prog W 0 (fun _ => true) true fuel 34 [.slice a len cap] = some x) : ∃ gs : List Gs, RdG W (.slice a len cap) gs ∧ len ≤ maxLen ∧ gs.length = len := by
  rcases open_slice Try.underlying34 h with ⟨hcs, _⟩ | ⟨x, l, c, m, n, D, Pl, hcs, _, hl, hm, hmm, _, hi⟩
  · simp at hcs
    obtain ⟨rfl, rfl, rfl⟩ := hcs
    exact ⟨[], RdG.nil _ _ _, by simp [maxLen], rfl⟩
  · simp at hcs
    obtain ⟨rfl, rfl, rfl⟩ := hcs
    have hm' : m = cap := by simpa using hmm
    have hC : Try.prog.cellsOf 63 = 3 := by kernel_rfl
    have hC0 : Try.prog.cellsOf 22 = 1 := by kernel_rfl
    have hC1 : Try.prog.cellsOf 3 = 1 := by kernel_rfl
    have key : ∀ i, ∃ G : Gs, i < len → ∃ u, W.cell? (x.add (i * 3)) = some u ∧ Rd W u G.code ∧ W.cell? (x.add (i * 3 + 1)) = some (.int .i64 G.right) ∧ W.cell? (x.add (i * 3 + 2)) = some (.int .i64 G.near) := by
      intro i
      by_cases hil : i < len
      · obtain ⟨cs', hc, ht'⟩ := hi i (by omega)
        obtain ⟨ys, n', _, _, _, hyl, hf⟩ := DataW.trod_struct Try.underlying63 ht'
        obtain ⟨_, hcl, hat⟩ := World.cells?_some hc
        rw [hC] at hcl hat
        match cs', hcl with
        | [c0, c1, c2], _ =>
          have a0 := hat 0 (by omega)
          have a1 := hat 1 (by omega)
          have a2 := hat 2 (by omega)
          rw [Go.Deep.add_add] at a0 a1 a2
          simp only [List.getElem?_cons_zero, List.getElem?_cons_succ, Nat.add_zero] at a0 a1 a2
          have hy : ys.length = 3 := hyl
          match ys, hy with
          | [y0, y1, y2], _ =>
            have f0 : DataW.trod enc Try.prog W 0 (fun _ => true) true n' 22 (List.take (Try.prog.cellsOf 22) [c0, c1, c2]) = some y0 := hf 0 _ rfl
            have f1 : DataW.trod enc Try.prog W 0 (fun _ => true) true n' 3 (List.take (Try.prog.cellsOf 3) [c1, c2]) = some y1 := hf 1 _ rfl
            have f2 : DataW.trod enc Try.prog W 0 (fun _ => true) true n' 3 (List.take (Try.prog.cellsOf 3) [c2]) = some y2 := hf 2 _ rfl
            rw [hC0] at f0
            rw [hC1] at f1 f2
            obtain ⟨r, e1, _⟩ := DataW.trod_int Try.underlying3 f1
            obtain ⟨s, e2, _⟩ := DataW.trod_int Try.underlying3 f2
            simp only [List.take_succ_cons, List.take_zero, List.cons.injEq, and_true] at e1 e2
            rw [e1] at a1
            rw [e2] at a2
            rcases open_ints Try.underlying22 Try.underlying3 (by kernel_rfl) f0 with ⟨e0, _⟩ | ⟨y, l0, cp0, zs, e0, _, hl0, hm0, hz, _, hcell, hwz⟩
            · simp only [List.take_succ_cons, List.take_zero, List.cons.injEq, and_true] at e0
              rw [e0] at a0
              exact ⟨⟨[], r, s⟩, fun _ => ⟨_, a0, Rd.nil _ _ _, a1, a2⟩⟩
            · simp only [List.take_succ_cons, List.take_zero, List.cons.injEq, and_true] at e0
              rw [e0] at a0
              exact ⟨⟨zs.take l0, r, s⟩, fun _ => ⟨_, a0, (Rd.of_row (.inr ⟨y, rfl, hl0, hm0, by simpa using hz, hcell, hwz⟩)).1, a1, a2⟩⟩
      · exact ⟨gNil, fun h => absurd h hil⟩
    obtain ⟨F, hF⟩ := Classical.axiomOfChoice key
    have hgl : ((List.range len).map F).length = len := by simp
    refine ⟨(List.range len).map F, ⟨some x, cap, by rw [hgl], by rw [hgl]; omega, fun hn => ?_⟩, by omega, hgl⟩
    have hpos : 0 < len := by
      rcases Nat.eq_zero_or_pos len with h0 | h0
      · subst h0; simp at hn
      · exact h0
    obtain ⟨b, off, spot⟩ := x
    obtain ⟨u0, hu0, _⟩ := hF 0 hpos
    have hspot : spot = none := by simpa [Addr.add] using World.cell?_spot hu0
    subst hspot
    refine ⟨b, off, rfl, fun j hj => ?_⟩
    rw [hgl] at hj
    obtain ⟨u, h1, h2, h3, h4⟩ := hF j hj
    rw [Addr.add_lit] at h1 h3 h4
    have hg : ((List.range len).map F).getD j gNil = F j := by simp [List.getD, hj]
    rw [hg]
    exact ⟨u, h1, h2, by rw [Nat.add_assoc]; exact h3, by rw [Nat.add_assoc]; exact h4⟩
end Go.Proofs.Ytkkjgcpkimjfkaa
