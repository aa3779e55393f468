/- impl.rows' iterator: its contract with a loop's rounds. -/
import Derived.Test.YtkkjgcpkimjfkaaProg
import Derived.Test.YtkkjgcpkimjfkaaRows4
import Derived.Laws.EntriesVeiled
namespace Go.Proofs.Ytkkjgcpkimjfkaa
open Go.RowKit Go.Shelf

set_option maxRecDepth 100000 in
set_option maxHeartbeats 4000000 in
theorem rows1_any (p c l Bm Bl : Nat) (hp1 : 1 ≤ p) (hp3 : p ≤ 3) (hc : c ≤ 1000) (hN : c ^ p ≤ 1000) (J : List (List Int) → World → Prop) (w : World) (hBm : Bm < w.heap.size) (hBl : Bl < w.heap.size)
    (hm : w.cell? ⟨Bm, 0, none⟩ = some (.int .i64 p)) (hl : w.cell? ⟨Bl, 0, none⟩ = some (.int .i64 c))
    (hJb : ∀ pre W W', J pre W → Below W.heap.size W W' → J pre W') (hJs : ∀ pre W i v, J pre W → J pre (W.setCell ⟨w.heap.size + 1, i, none⟩ (.int .i64 v)))
    (hY : ∀ m pre f W, J pre W → Fm p c l Bm Bl w.heap.size (w.heap.size + 1) (w.heap.size + 2) (w.heap.size + 3) W → RowAt W (w.heap.size + 1) p f → pre.length < 1000 → YieldAt Fence.wide m Try.prog l #[.slice (some ⟨w.heap.size + 1, 0, none⟩) p p] W fun e W' =>
      e = .returned (.bool true) ∧ J (pre ++ [(List.range p).map f]) W' ∧ Fm p c l Bm Bl w.heap.size (w.heap.size + 1) (w.heap.size + 2) (w.heap.size + 3) W' ∧ RowAt W' (w.heap.size + 1) p f)
    (h0 : J [] w) :
    Calls Try.prog 74 #[.func (.yield l) #[] #[], .pointer (some ⟨Bm, 0, none⟩), .pointer (some ⟨Bl, 0, none⟩)] w fun e w' => (∃ v, e = .returned v) ∧ J (ext c p []) w' := by
  have K := Lib.hid (fun W (hb : Below w.heap.size w W) (hF : Fm p c l Bm Bl w.heap.size (w.heap.size + 1) (w.heap.size + 2) (w.heap.size + 3) W) (hR : RowAt W (w.heap.size + 1) p (fun _ => 0)) =>
    callsIn_wide.1 (fill_in p c l Bm Bl w.heap.size (w.heap.size + 1) (w.heap.size + 2) (w.heap.size + 3) J (by omega) (by omega) (by omega) (by omega) (by omega) (by omega) hc
      hJs hY p 0 0 0 [] (fun _ => 0) W rfl (by omega) (hJb [] w W h0 hb) hF hR (by simpa using hN)))
  clear hJb hJs hY h0
  obtain ⟨i0, hi, hz0, hz1, hz2⟩ := info_parts YtkkjgcpkimjfkaainfoInt
  obtain ⟨Z, hZ, hmk⟩ : ∃ Z : Array Value, (∀ j, j < p → Z[j]? = some (.int .i64 0)) ∧ ∀ W : World, (Instr.makeSlice 22 (.int .i64 p) (.int .i64 p)).run Try.prog W = .ok (.slice (some ⟨W.heap.size, 0, none⟩) p p) (W.alloc (.cells Z 3)) := by
    refine ⟨madeCells (Value.int .i64 0).cells (p * 1), fun j hj => ?_, fun W => ?_⟩
    · have := toList_madeCells_one (.int .i64 0) (p * 1)
      rw [← Array.getElem?_toList, show (Value.int .i64 0).cells = #[.int .i64 0] from rfl, this, List.getElem?_replicate, if_pos (by omega)]
    · have hr := run_make (P := Try.prog) W 22 3 i0 (.int .i64 0) Try.underlying22 hi hz0 .i64 .i64 p p (by omega) (Int.le_refl _) (by rw [hz2]; omega) (by omega)
      simp only [Int.toNat_natCast, hz1] at hr
      exact hr
  have HZ := Lib.hid hZ
  clear hi hz0 hz1 hz2 hZ
  go_enter Try.func74, Try.ntmps74
  go_wp2_with fail
  have b3 : Below (w.heap.size + 1) (w.alloc (.cells #[.func (.yield l) #[] #[]] 71)) ((((w.alloc (.cells #[.func (.yield l) #[] #[]] 71)).alloc (.cells Z 3)).alloc (.cells #[.slice (some ⟨w.heap.size + 1, 0, none⟩) p p] 22)).alloc (.cells #[.func (.func 75) #[] #[.pointer (some ⟨Bm, 0, none⟩), .pointer (some ⟨w.heap.size, 0, none⟩), .pointer (some ⟨w.heap.size + 1 + 1, 0, none⟩), .pointer (some ⟨Bl, 0, none⟩), .pointer (some ⟨w.heap.size + 1 + 1 + 1, 0, none⟩)]] 79)) :=
    (((Below.refl _ _).alloc (by simp) _).alloc (by simp) _).alloc (by simp) _
  have b2 : Below (w.heap.size + 2) ((w.alloc (.cells #[.func (.yield l) #[] #[]] 71)).alloc (.cells Z 3)) ((((w.alloc (.cells #[.func (.yield l) #[] #[]] 71)).alloc (.cells Z 3)).alloc (.cells #[.slice (some ⟨w.heap.size + 1, 0, none⟩) p p] 22)).alloc (.cells #[.func (.func 75) #[] #[.pointer (some ⟨Bm, 0, none⟩), .pointer (some ⟨w.heap.size, 0, none⟩), .pointer (some ⟨w.heap.size + 1 + 1, 0, none⟩), .pointer (some ⟨Bl, 0, none⟩), .pointer (some ⟨w.heap.size + 1 + 1 + 1, 0, none⟩)]] 79)) :=
    ((Below.refl _ _).alloc (by simp) _).alloc (by simp) _
  have b4 : Below w.heap.size w _ := ((Below.refl w.heap.size w).alloc (Nat.le_refl _) (.cells #[.func (.yield l) #[] #[]] 71)).trans (b3.mono (by omega))
  refine (K.out _ b4 ⟨(b4.cell (p := ⟨Bm, 0, none⟩) hBm).trans hm, (b4.cell (p := ⟨Bl, 0, none⟩) hBl).trans hl, (b3.cell (p := ⟨w.heap.size, 0, none⟩) (by simp)).trans ((World.cell?_alloc_at _ _ _ _ rfl).trans rfl), ?_, (World.cell?_alloc_at _ _ _ _ (by simp)).trans rfl⟩ ?_).mono ?_
  · exact (World.cell?_alloc_past _ _ _ (by simp)).trans ((World.cell?_alloc_at _ _ _ _ (by simp)).trans rfl)
  · refine RowAt.below ?_ b2 (by omega)
    intro j hj
    exact ⟨(World.cell?_alloc_at _ _ _ _ (by simp)).trans (HZ.out j hj), World.frozen?_alloc_at _ _ _ _ (by simp)⟩
  · rintro e W2 ⟨rfl, hJ2, _, _⟩
    have HJ2 := Lib.hid hJ2
    clear hJ2 b3 b2 b4
    go_wp2_with fail
    go_end0
    exact ⟨⟨_, rfl⟩, HJ2.out⟩
end Go.Proofs.Ytkkjgcpkimjfkaa
