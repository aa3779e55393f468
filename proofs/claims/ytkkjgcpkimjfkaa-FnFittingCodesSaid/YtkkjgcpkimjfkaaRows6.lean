/- impl.allRows: the loop over the iterator; AllCodes. -/
import Derived.Test.YtkkjgcpkimjfkaaProg
import Derived.Test.YtkkjgcpkimjfkaaRows5
namespace Go.Proofs.Ytkkjgcpkimjfkaa
open Go.RowKit Go.Shelf

/-- what the rounds have made of the world: the loop's record is ready, 'out' holds the rows that have come -/
def AJ (w : World) (O D l H1 : Nat) (rec : LoopState → Option Code → Loop) (pre : List (List Int)) (W : World) : Prop :=
  Below w.heap.size w W ∧ W.heap[D]? = some (.deferred (some [])) ∧ W.heap[l]? = some (.loop (rec .ready none)) ∧ ∃ v us, W.heap[O]? = some (.cells #[v] 29 (0, 0)) ∧ OwR W H1 v us pre

theorem blk_lt {W : World} {k : Nat} {o : Obj} (h : W.heap[k]? = some o) : k < W.heap.size := (Array.getElem?_eq_some_iff.1 h).1

theorem AJ.below {w W W' : World} {O D l H1 : Nat} {rec : LoopState → Option Code → Loop} {pre : List (List Int)} (h : AJ w O D l H1 rec pre W) (b : Below W.heap.size W W') : AJ w O D l H1 rec pre W' := by
  obtain ⟨h1, h2, h3, v, us, h4, h5⟩ := h
  exact ⟨h1.trans (b.mono h1.size), (b.block _ (blk_lt h2)).trans h2, (b.block _ (blk_lt h3)).trans h3, v, us, (b.block _ (blk_lt h4)).trans h4, h5.below b⟩
theorem AJ.set {w W : World} {O D l H1 R : Nat} {rec : LoopState → Option Code → Loop} {pre : List (List Int)} (h : AJ w O D l H1 rec pre W) (hR : w.heap.size ≤ R) (hR1 : R < H1) (hO : O ≠ R) (hD : D ≠ R) (hl : l ≠ R) (i : Nat) (x : Value) : AJ w O D l H1 rec pre (W.setCell ⟨R, i, none⟩ x) := by
  obtain ⟨h1, h2, h3, v, us, h4, h5⟩ := h
  refine ⟨h1.setCell (p := ⟨R, i, none⟩) hR x, (Below.heap_setCell W ⟨R, i, none⟩ x D hD).trans h2, (Below.heap_setCell W ⟨R, i, none⟩ x l hl).trans h3, v, us, (Below.heap_setCell W ⟨R, i, none⟩ x O hO).trans h4, h5.kept (grownBy_set (World.grownBy.refl _ _) i x) (fun b hb => ?_)⟩
  injection hb with hb
  refine ⟨fun e => ?_, fun j hj e => ?_⟩
  · have := (h5.base_le b (.inl e)).1; omega
  · have := (h5.base_le b (.inr ⟨j, hj, e⟩)).1; omega

/-- 'append(out, row)' at a step of a region that draws its order, in a round. -/
theorem step_append_row_in (w : World) {F : Fence} {n : Nat} {ops : Array Oper} {o : Oper} {a : Act} {K : Act → World → Prop} {Q : Exit → Act → World → Prop} {E : Prop} (hgd : o.guard = none) (s x : Operand)
    (ho : o.op = Op.call { callee := Callee.builtin Builtin.append, args := #[s, x], argTypes := #[29, 29] })
    (base : Nat) (v u : Value) (us : List Value) (hu : u.oneCell' = true) (hown : w.ownsRow base 22 1 v us.length us) (hs : a.eval s = v) (hx : a.eval x = .slice (some ⟨w.heap.size, 0, none⟩) 1 1)
    (hL : us.length < 1000000000) (hb : base ≤ w.heap.size)
    (h : ∀ v' w', w'.ownsRow base 22 1 v' (us ++ [u]).length (us ++ [u]) → w.grownBy w' v.ownBlock → (v'.ownBlock = v.ownBlock ∨ ∃ b, v'.ownBlock = some b ∧ w.heap.size ≤ b) → K (a.put o.dst v') w') :
    if Region.wanted o (yielded ops a.tmps) = true then Oper.wpIn F n Try.prog o a (w.alloc (.cells #[u] 22)) K Q else E := by
  obtain ⟨i0, hi, hz0, hz1, hz2⟩ := info_parts YtkkjgcpkimjfkaainfoSl
  obtain ⟨v', w', hr, h2, h3, _, h5⟩ := run_append_own_at (P := Try.prog) (w.alloc (.cells #[u] 22)) base 29 o.type 22 i0 (.slice none 0 0) 1 24 Try.underlying29 hi hz0 hz1 hz2 rfl (by decide) v us.length us (hown.alloc _) ⟨w.heap.size, 0, none⟩ 1 1 [u] rfl
    (fun j y hj => by
      match j, hj with
      | 0, hj => simp at hj; subst hj; simp [Addr.add]) (fun y hy => by simp at hy; subst hy; exact hu) (by simp only [maxLen]; omega) (by omega) (by simp; omega)
  have hw : Region.wanted o (yielded ops a.tmps) = true := by simp [Region.wanted, hgd]
  rw [if_pos hw]
  have e1 : (us ++ [u]).length = us.length + 1 := by simp
  have hk := h v' w' (by rw [e1]; exact h2) ⟨h3.os, h3.tape, h3.output, by have := h3.size; simp at this; omega, fun k hk hne => by
      rw [h3.block k (by simp; omega) hne]
      exact ((Below.refl w.heap.size w).alloc (Nat.le_refl _) _).block k hk⟩ (by
    rcases h5 with e | e
    · exact .inl e
    · exact .inr ⟨_, e, by simp⟩)
  unfold Oper.wpIn
  refine ⟨?_, ?_⟩
  · simp [Oper.about, ho, resolve, Target.leads, Sem.run_pure]
  · rw [Oper.semAt_plain F _ _ (by rw [ho]; intro c hc'; cases hc')]
    simp [execOp, ho, resolve, invoke, builtin, hs, hx, hr, Result.andThen]
    exact hk
theorem ownsRow_succ6 {w : World} {base : Nat} {v u : Value} {us : List Value} (h : w.ownsRow base 22 1 v (us ++ [u]).length (us ++ [u])) : ∃ g c, v = .slice (some ⟨g, 0, none⟩) (us.length + 1) c := by
  obtain ⟨g, c, e, _⟩ := h.form (by simp)
  exact ⟨g, c, by rw [e]; simp⟩

/-- A range over a function, in the wide fence, outermost: its record and its block for deferred calls are laid; what is left is the call of the function with yield. -/
theorem wpIn_rangeFunc_wide {P : Program} {g : Operand} {ps : Array Tmp} {assign body : Code} {Q : Exit → Act → World → Prop} {a : Act} {w : World} {gf : Nat} {lb : Array Value}
    (hg : a.eval g = .func (.func gf) #[] lb) (eg : ∀ args w, (callFunc gf args).run P w = .ok (.enter gf args) w)
    (h : ∀ (fn : FuncId) (rec : LoopState → Option Code → Loop) (W1 : World), (rec = fun st pe => { state := st, pending := pe, fn, tmps := a.tmps, params := ps, assign, body, defers := w.heap.size }) →
      W1 = (w.alloc (.deferred (some []))).alloc (.loop (rec .ready none)) → CallsIn Fence.wide 0 P gf (#[.func (.yield (w.heap.size + 1)) #[] #[]] ++ lb) W1 (rangePost Fence.wide 0 P (w.heap.size + 1) Q { a with defers := [{ target := .collected w.heap.size, args := #[] }] ++ a.defers })) :
    (Code.rangeFunc g ps assign body).wpIn Fence.wide 0 P Q a w := by
  refine wpIn_rangeFunc ?_
  intro fn _
  rw [show Fence.wide.round = none from rfl]
  obtain ⟨rec, hrec⟩ : ∃ rec : LoopState → Option Code → Loop, rec = fun st pe => { state := st, pending := pe, fn, tmps := a.tmps, params := ps, assign, body, defers := w.heap.size } := ⟨_, rfl⟩
  obtain ⟨W1, hW1⟩ : ∃ W1, W1 = (w.alloc (.deferred (some []))).alloc (.loop (rec .ready none)) := ⟨_, rfl⟩
  refine ⟨w.heap.size + 1, [{ target := .collected w.heap.size, args := #[] }], W1, { target := .fn (.func gf) lb, args := #[.func (.yield (w.heap.size + 1)) #[] #[]] }, W1, gf,
    #[.func (.yield (w.heap.size + 1)) #[] #[]] ++ lb, W1, ?_, ?_, fun _ _ => trivial, ?_, ?_, ?_⟩
  · rw [hW1, hrec]; exact run_enterLoop_outer _ _ _ _ _
  · simp only [resolve, hg]
    simp [go_sem]
  · simp [invoke, go_sem, eg]
  · intro h; cases h
  · exact h fn rec W1 hrec hW1

theorem Fm.of_blocks {p c l Bm Bl By R Br Bf : Nat} {W W' : World} (h : Fm p c l Bm Bl By R Br Bf W) (k : ∀ B, B = Bm ∨ B = Bl ∨ B = By ∨ B = Br ∨ B = Bf → W'.heap[B]? = W.heap[B]?) : Fm p c l Bm Bl By R Br Bf W' :=
  ⟨(World.cell?_of_block (a := ⟨Bm, 0, none⟩) (k Bm (by simp))).trans h.m, (World.cell?_of_block (a := ⟨Bl, 0, none⟩) (k Bl (by simp))).trans h.less, (World.cell?_of_block (a := ⟨By, 0, none⟩) (k By (by simp))).trans h.y,
    (World.cell?_of_block (a := ⟨Br, 0, none⟩) (k Br (by simp))).trans h.r, (World.cell?_of_block (a := ⟨Bf, 0, none⟩) (k Bf (by simp))).trans h.fl⟩

/-- a round is over: the row is added; all that the iterator leans on lies as it lay -/
theorem round_done {w W W2 w4 w6 : World} {O D l H1 p c Bm Bl By R Br Bf : Nat} {rec : LoopState → Option Code → Loop} {pre : List (List Int)} {v v' u : Value} {us : List Value} {f : Nat → Int} {xs : List Int} (a : Act)
    (hrr : ({ ({ rec .ready none with state := .busy } : Loop) with state := .ready, pending := none } : Loop) = rec .ready none)
    (hbW : Below w.heap.size w W) (hK : W.heap[D]? = some (.deferred (some []))) (hF : Fm p c l Bm Bl By R Br Bf W) (hR : RowAt W R p f) (g2 : W.grownBy W2 (some l)) (hL2 : W2.heap[l]? = some (.loop { rec .ready none with state := .busy }))
    (hRw2 : OwR W2 H1 v us pre) (hB4 : Below W2.heap.size W2 w4) (how : Ow w4 W2.heap.size u xs) (hg6 : w4.grownBy w6 v.ownBlock) (hown6 : w6.ownsRow H1 22 1 v' (us ++ [u]).length (us ++ [u])) (hv6 : v'.ownBlock = v.ownBlock ∨ ∃ b, v'.ownBlock = some b ∧ w4.heap.size ≤ b)
    (hO6 : w6.heap[O]? = some (.cells #[v] 29 (0, 0))) (hpl : pre.length < 1000) (hH1 : H1 ≤ W.heap.size)
    (hlim : O < H1 ∧ D < H1 ∧ l < H1 ∧ Bm < H1 ∧ Bl < H1 ∧ By < H1 ∧ R < H1 ∧ Br < H1 ∧ Bf < H1) (hw : w.heap.size ≤ O ∧ w.heap.size ≤ l ∧ w.heap.size ≤ H1)
    (hnl : D ≠ l ∧ O ≠ l ∧ Bm ≠ l ∧ Bl ≠ l ∧ By ≠ l ∧ R ≠ l ∧ Br ≠ l ∧ Bf ≠ l) (hnO : D ≠ O ∧ Bm ≠ O ∧ Bl ≠ O ∧ By ≠ O ∧ R ≠ O ∧ Br ≠ O ∧ Bf ≠ O) :
    roundPost Try.prog l (fun e W' => e = .returned (.bool true) ∧ AJ w O D l H1 rec (pre ++ [xs]) W' ∧ Fm p c l Bm Bl By R Br Bf W' ∧ RowAt W' R p f) .normal a (w6.setCell ⟨O, 0, none⟩ v') := by
  have NL := Lib.hid hnl
  have NO := Lib.hid hnO
  clear hnl hnO
  obtain ⟨lO, lD, ll, lm, lb, ly, lR, lr, lf⟩ := hlim
  obtain ⟨w1, w2, w3⟩ := hw
  have hs2 := g2.size
  have hs4 := hB4.size
  have hs6 := hg6.size
  have hvb : ∀ b, v.ownBlock = some b → H1 ≤ b ∧ b < W2.heap.size := fun b hb => hRw2.base_le b (.inl hb)
  have hl6 : w6.heap[l]? = some (.loop { rec .ready none with state := .busy }) := by
    rw [hg6.block l (by omega) (fun e => by have := (hvb l e.symm).1; omega), hB4.block l (by omega)]
    exact hL2
  have hl7 : (w6.setCell ⟨O, 0, none⟩ v').heap[l]? = some (.loop { rec .ready none with state := .busy }) := (Below.heap_setCell w6 ⟨O, 0, none⟩ v' l NL.out.2.1.symm).trans hl6
  have hend := run_endRound (P := Try.prog) none hl7
  simp only [Option.isNone_none, if_true] at hend
  rw [hrr] at hend
  have hkeep : ∀ B, B < H1 → B ≠ l → B ≠ O → ((w6.setCell ⟨O, 0, none⟩ v').putObj l (.loop (rec .ready none))).heap[B]? = W.heap[B]? := fun B h1 h2 h3 => by
    rw [World.putObj_heap_other h2, Below.heap_setCell w6 ⟨O, 0, none⟩ v' B h3, hg6.block B (by omega) (fun e => by have := (hvb B e.symm).1; omega), hB4.block B (by omega), g2.block B (by omega) (fun e => h2 (by injection e))]
  refine ⟨_, _, hend, rfl, ⟨?_, (hkeep D lD NL.out.1 NO.out.1).trans hK, World.putObj_heap_same (blk_lt hl7), v', us ++ [u], ?_, ?_⟩, hF.of_blocks (fun B hB => ?_), fun j hj => ?_⟩
  · have b2 : Below w.heap.size w W2 := hbW.grown g2 hbW.size (fun k hk => by injection hk with hk; omega)
    have b4 : Below w.heap.size w w4 := b2.trans (hB4.mono b2.size)
    have b6 : Below w.heap.size w w6 := b4.grown hg6 b4.size (fun k hk => by have := (hvb k hk).1; omega)
    exact (b6.setCell (p := ⟨O, 0, none⟩) w1 v').grown (grownBy_putObj' _ l _) (b6.setCell (p := ⟨O, 0, none⟩) w1 v').size (fun k hk => by injection hk with hk; omega)
  · rw [World.putObj_heap_other NL.out.2.1]
    exact Boxed.set v' hO6
  · have hp := hRw2.push hB4 (how.mono (by omega)) how.block_ge (by simp only [maxLen]; omega) hg6 hown6 hv6
    have hfar : ∀ (X Y : World) (g : Nat), g < H1 → X.grownBy Y (some g) → OwR X H1 v' (us ++ [u]) (pre ++ [xs]) → OwR Y H1 v' (us ++ [u]) (pre ++ [xs]) := fun X Y g hg gg h => h.kept gg (fun b hb => by
      injection hb with hb
      refine ⟨fun e => ?_, fun j hj e => ?_⟩
      · have := (h.base_le b (.inl e)).1; omega
      · have := (h.base_le b (.inr ⟨j, hj, e⟩)).1; omega)
    exact hfar _ _ l ll (grownBy_putObj' _ l _) (hfar _ _ O lO (grownBy_setCell' w6 O v') hp)
  · obtain ⟨_, _, n1, n2, n3, n4, n5, n6⟩ := NL.out
    obtain ⟨_, m1, m2, m3, m4, m5, m6⟩ := NO.out
    rcases hB with rfl | rfl | rfl | rfl | rfl
    · exact hkeep _ lm n1 m1
    · exact hkeep _ lb n2 m2
    · exact hkeep _ ly n3 m3
    · exact hkeep _ lr n5 m5
    · exact hkeep _ lf n6 m6
  · have hb := hkeep R lR NL.out.2.2.2.2.2.1 NO.out.2.2.2.2.1
    exact ⟨(World.cell?_of_block (a := ⟨R, j, none⟩) hb).trans (hR j hj).1, (World.frozen?_of_block (a := ⟨R, j, none⟩) hb).trans (hR j hj).2⟩

set_option maxRecDepth 100000 in
set_option maxHeartbeats 4000000 in
theorem allRows_any (p c : Nat) (hp1 : 1 ≤ p) (hp3 : p ≤ 3) (hc : c ≤ 5) (w : World) :
    Calls Try.prog 45 #[.int .i64 p, .int .i64 c] w fun e w' => (∃ v us, e = .returned v ∧ OwR w' w.heap.size v us (ext c p [])) ∧ Below w.heap.size w w' := by
  refine callsIn_wide (n := 0) |>.1 ?_
  refine callsIn_of_wp_marks Try.func45 rfl trivial ?_ rfl
  simp only [Try.ntmps45, List.size_toArray, List.length_cons, List.length_nil, Nat.reduceAdd, Nat.reduceSub, Array.replicate_succ, Array.replicate_zero, List.push_toArray, List.append_toArray, List.nil_append, List.cons_append]
  gi_wp2
  refine ⟨trivial, rfl, (callsIn_wide.2 (impl_rows p c _)).mono ?_⟩
  rintro e w' ⟨rfl, rfl⟩
  gi_wp2
  generalize hW0 : ((w.alloc (.cells #[.slice none 0 0] 29)).alloc (.cells #[.int .i64 p] 3)).alloc (.cells #[.int .i64 c] 3) = W0
  have hs0 : W0.heap.size = w.heap.size + 1 + 1 + 1 := by rw [← hW0]; simp
  have hb0 : Below w.heap.size w W0 := by rw [← hW0]; exact (((Below.refl _ _).alloc (Nat.le_refl _) _).alloc (by simp) _).alloc (by simp; omega) _
  have ho0 : W0.heap[w.heap.size]? = some (.cells #[.slice none 0 0] 29 (0, 0)) := by
    rw [← hW0]
    exact (((Below.refl (w.heap.size + 1) _).alloc (by simp) _).alloc (by simp) _).block _ (by omega) |>.trans (World.alloc_heap_new w _)
  have hm0 : W0.cell? ⟨w.heap.size + 1, 0, none⟩ = some (.int .i64 p) := by rw [← hW0]; exact (World.cell?_alloc_past _ _ _ (by simp)).trans ((World.cell?_alloc_at _ _ _ _ (by simp)).trans rfl)
  have hc0 : W0.cell? ⟨w.heap.size + 1 + 1, 0, none⟩ = some (.int .i64 c) := by rw [← hW0]; exact (World.cell?_alloc_at _ _ _ _ (by simp)).trans rfl
  clear hW0
  refine wpIn_rangeFunc_wide (gf := 74) rfl (enters_of Try.func74 (by kernel_rfl) rfl) ?_
  intro fn rec W1 hrec hW1
  have hs1 : W1.heap.size = W0.heap.size + 2 := by rw [hW1]; simp
  have hb1 : Below W0.heap.size W0 W1 := by rw [hW1]; exact ((Below.refl _ _).alloc (Nat.le_refl _) _).alloc (by simp) _
  have hL1 : W1.heap[W0.heap.size + 1]? = some (.loop (rec .ready none)) := by
    rw [hW1]; have := World.alloc_heap_new (W0.alloc (.deferred (some []))) (.loop (rec .ready none)); rwa [World.size_alloc] at this
  have hK1 : W1.heap[W0.heap.size]? = some (.deferred (some [])) := by
    rw [hW1]; exact (Below.heap_alloc _ _ _ (by simp)).trans (World.alloc_heap_new W0 _)
  clear hW1
  have hJ1 : AJ w w.heap.size W0.heap.size (W0.heap.size + 1) (W1.heap.size + 4) rec [] W1 :=
    ⟨hb0.trans (hb1.mono hb0.size), hK1, hL1, nilS, [], (hb1.block _ (by omega)).trans ho0, OwR.nil _ _⟩
  have hcp : c ^ p ≤ 1000 := by
    have h1 : c ^ p ≤ 5 ^ p := Nat.pow_le_pow_left hc p
    have h2 : 5 ^ p ≤ 5 ^ 3 := Nat.pow_le_pow_right (by omega) hp3
    omega
  refine (callsIn_wide.2 (rows1_any p c (W0.heap.size + 1) (w.heap.size + 1) (w.heap.size + 1 + 1) hp1 hp3 (by omega) hcp (AJ w w.heap.size W0.heap.size (W0.heap.size + 1) (W1.heap.size + 4) rec) W1 (by omega) (by omega)
    ((hb1.cell (p := ⟨w.heap.size + 1, 0, none⟩) (show w.heap.size + 1 < W0.heap.size by omega)).trans hm0) ((hb1.cell (p := ⟨w.heap.size + 1 + 1, 0, none⟩) (show w.heap.size + 1 + 1 < W0.heap.size by omega)).trans hc0)
    (fun pre W W' h b => h.below b) (fun pre W i v h => h.set (by omega) (by omega) (by omega) (by omega) (by omega) i _) ?round hJ1)).mono ?done
  case done =>
    rintro e W2 ⟨⟨v, rfl⟩, hJ⟩
    obtain ⟨hb2, hK2, hL2, u, us, hO2, hR2⟩ := hJ
    have hpe : (rec .ready none).pending = none := by rw [hrec]
    obtain ⟨o3, hend⟩ : ∃ o3, (Instr.endLoop (W0.heap.size + 1)).run Try.prog W2 = .ok none (W2.putObj (W0.heap.size + 1) o3) := ⟨_, by
      have := run_endLoop (P := Try.prog) hL2 (by rw [hrec]; simp)
      rw [hpe] at this
      exact this⟩
    have g3 := grownBy_putObj' W2 (W0.heap.size + 1) o3
    generalize hW3 : W2.putObj (W0.heap.size + 1) o3 = W3 at hend g3
    refine ⟨none, W3, hend, ?_⟩
    have hK3 : W3.heap[W0.heap.size]? = some (.deferred (some [])) := by rw [← hW3]; exact (World.putObj_heap_other (by omega)).trans hK2
    have hO3 : W3.heap[w.heap.size]? = some (.cells #[u] 29 (0, 0)) := by rw [← hW3]; exact (World.putObj_heap_other (by omega)).trans hO2
    have hR3 : OwR W3 (W1.heap.size + 4) u us (ext c p []) := hR2.kept g3 (fun b hb => by
      injection hb with hb
      refine ⟨fun e => ?_, fun j hj e => ?_⟩
      · have := (hR2.base_le b (.inl e)).1; omega
      · have := (hR2.base_le b (.inr ⟨j, hj, e⟩)).1; omega)
    have hb3 : Below w.heap.size w W3 := hb2.grown g3 (by have := hb2.size; omega) (fun k hk => by injection hk with hk; omega)
    have hcO : W3.cell? ⟨w.heap.size, 0, none⟩ = some u := by simp [World.cell?, hO3]
    have HK3 := Lib.hid hK3
    have HR3 := Lib.hid hR3
    have HB3 := Lib.hid hb3
    clear hW3 hK2 hL2 hO2 hR2 hb2 hpe hend g3 hK3 hO3 hR3 hb3 hJ1 hrec hK1 hL1 hc0 hm0 ho0
    gi_wp2
    rw [hs0] at HK3
    have g4 := grownBy_putObj' W3 (w.heap.size + 1 + 1 + 1) (.deferred none)
    refine ⟨by simp, .inl ⟨_, _, rfl, run_takeDeferred HK3.out, ?_⟩⟩
    refine ⟨_, results_tmp rfl _ _ _, ⟨u, us, rfl, ?_⟩, ?_⟩
    · refine (HR3.out.kept g4 (fun b hb => ?_)).mono (by omega)
      injection hb with hb
      refine ⟨fun e => ?_, fun j hj e => ?_⟩
      · have := (HR3.out.base_le b (.inl e)).1; omega
      · have := (HR3.out.base_le b (.inr ⟨j, hj, e⟩)).1; omega
    · exact HB3.out.grown g4 HB3.out.size (fun k hk => by injection hk with hk; omega)
  case round =>
    intro m pre f W hJ hF hR hpl
    obtain ⟨hbW, hK, hL, v, us, hO, hRw⟩ := hJ
    have hy := run_yield (P := Try.prog) (args := #[.slice (some ⟨W1.heap.size + 1, 0, none⟩) p p]) hL (by rw [hrec]; rfl)
    rw [hrec] at hy
    refine ⟨fn, _, _, _, hy, roundIn_of_wpIn trivial ?_⟩
    have hbeg := run_beginRound (P := Try.prog) hL (by rw [hrec])
    clear hy
    have hsem := @Oper.semAt_some
    gi_wp2
    refine ⟨_, hbeg, ?_⟩
    clear hbeg
    have g2 := grownBy_putObj' W (W0.heap.size + 1) (.loop { rec .ready none with state := .busy })
    have hL2 : (W.putObj (W0.heap.size + 1) (.loop { rec .ready none with state := .busy })).heap[W0.heap.size + 1]? = some (.loop { rec .ready none with state := .busy }) := World.putObj_heap_same (blk_lt hL)
    generalize W.putObj (W0.heap.size + 1) (.loop { rec .ready none with state := .busy }) = W2 at g2 hL2
    have hO2 : W2.heap[w.heap.size]? = some (.cells #[v] 29 (0, 0)) := (g2.block _ (blk_lt hO) (by intro e; injection e with e; omega)).trans hO
    have hRw2 : OwR W2 (W1.heap.size + 4) v us pre := hRw.kept g2 (fun b hb => by
      injection hb with hb
      refine ⟨fun e => ?_, fun j hj e => ?_⟩
      · have := (hRw.base_le b (.inl e)).1; omega
      · have := (hRw.base_le b (.inr ⟨j, hj, e⟩)).1; omega)
    have hcO : W2.cell? ⟨w.heap.size, 0, none⟩ = some v := by simp [World.cell?, hO2]
    have hfO : W2.frozen? ⟨w.heap.size, 0, none⟩ = false := by simp [World.frozen?, hO2]
    have hs2 := g2.size
    have hlR : W1.heap.size + 1 < W.heap.size := World.block_lt_of_cell? W _ (hR 0 (by omega)).1
    have hrd : Rd W2.drew (.slice (some ⟨W1.heap.size + 1, 0, none⟩) p p) ((List.range p).map f) := by
      refine ⟨some ⟨W1.heap.size + 1, 0, none⟩, p, by simp, by simp [maxLen]; omega, fun _ => ⟨W1.heap.size + 1, 0, rfl, fun j hj => ?_⟩⟩
      simp only [List.length_map, List.length_range] at hj
      rw [Nat.zero_add]
      have h1 : W2.drew.cell? ⟨W1.heap.size + 1, j, none⟩ = W.cell? ⟨W1.heap.size + 1, j, none⟩ := World.cell?_of_block (a := ⟨W1.heap.size + 1, j, none⟩) (g2.block (W1.heap.size + 1) hlR (by intro e; injection e with e; omega))
      rw [h1, (hR j hj).1]
      simp [List.getD, hj]
    have hul : us.length < 1000000000 := by rw [hRw.len]; omega
    have hW14 : W1.heap.size + 3 < W.heap.size := World.block_lt_of_cell? W _ hF.fl
    have kcl := Lib.hid (clone_any _ _ _ hrd (by simp; omega))
    rw [hs1, hs0] at kcl
    have HRw2 := Lib.hid hRw2
    have hcO' : W2.drew.cell? ⟨w.heap.size, 0, none⟩ = some v := hcO
    clear hrd hRw2 hK1 hL1 hJ1 hm0 hc0 ho0 hb0 hb1 hcO
    gi_wp2
    refine wpIn_region_any (by kernel_rfl) ?_
    change wpAnyIn _ _ _ _ _ _ _ _ _ (World.drew _)
    refine wpAnyIn_ready (rs := [0, 1]) (by kernel_rfl) (by simp) ?_
    refine AllReadyIn.cons rfl (fun K hK => ?_) (AllReadyIn.cons rfl (fun K hK => ?_) AllReadyIn.nil)
    · go_simp
      refine hK _ _ ?_
      clear hK K
      refine wpAnyIn_ready (rs := [1]) (by kernel_rfl) (by simp) ?_
      refine AllReadyIn.cons rfl (fun K hK => ?_) AllReadyIn.nil
      go_simp
      refine hK _ _ ?_
      clear hK K
      refine wpAnyIn_ready (rs := [2]) (by kernel_rfl) (by simp) ?_
      refine AllReadyIn.cons rfl (fun K hK => ?_) AllReadyIn.nil
      go_simp
      refine ⟨trivial, fun h => (by cases h), (CallsIn.inRound (W0.heap.size + 1) (callsIn_wide.2 kcl.out)).mono ?_⟩
      rintro e w4 ⟨u, rfl, how, hb4⟩
      have HOW := Lib.hid how
      have HB4 := Lib.hid ((Below.refl W2.heap.size W2).drew.trans hb4)
      obtain ⟨au, cu, rfl, _, _⟩ := how
      simp only [List.length_map, List.length_range] at HOW
      have hO4 : w4.heap[w.heap.size]? = some (.cells #[v] 29 (0, 0)) := (HB4.out.block _ (blk_lt hO2)).trans hO2
      have hc4 : w4.cell? ⟨w.heap.size, 0, none⟩ = some v := by simp [World.cell?, hO4]
      have hl4 : w.heap.size < w4.heap.size := blk_lt hO4
      clear hb4
      refine hK _ _ ?_
      clear hK K
      refine wpAnyIn_ready (rs := [3]) (by kernel_rfl) (by simp) ?_
      refine AllReadyIn.cons rfl (fun K hK => ?_) AllReadyIn.nil
      go_simp
      refine hK _ _ ?_
      clear hK K
      refine wpAnyIn_ready (rs := [4]) (by kernel_rfl) (by simp) ?_
      refine AllReadyIn.cons rfl (fun K hK => ?_) AllReadyIn.nil
      refine step_append_row_in w4 (by rfl) _ _ (by rfl) (W1.heap.size + 4) v _ us (by rfl) (HRw2.out.below HB4.out).own (by rfl) (by rfl) hul (by have := HB4.out.size; omega) ?_
      intro v6 w6 hown6 hg6 hv6
      have hO6 : w6.heap[w.heap.size]? = some (.cells #[v] 29 (0, 0)) := (hg6.block _ hl4 (fun e => by have := (HRw2.out.base_le _ (.inl e.symm)).1; omega)).trans hO4
      have hc6 : w6.cell? ⟨w.heap.size, 0, none⟩ = some v := by simp [World.cell?, hO6]
      have hf6 : w6.frozen? ⟨w.heap.size, 0, none⟩ = false := by simp [World.frozen?, hO6]
      have HOWN6 := Lib.hid hown6
      have HG6 := Lib.hid hg6
      have HV6 := Lib.hid hv6
      clear hown6 hg6 hv6
      obtain ⟨gv, cv, rfl⟩ := ownsRow_succ6 HOWN6.out
      refine hK _ _ ?_
      clear hK K
      refine wpAnyIn_ready (rs := [5]) (by kernel_rfl) (by simp) ?_
      refine AllReadyIn.cons rfl (fun K hK => ?_) AllReadyIn.nil
      go_simp
      refine hK _ _ ?_
      clear hK K
      refine wpAnyIn_done (by kernel_rfl) ?_ _
      gi_wp2
      exact round_done _ (by rw [hrec]) hbW hK hF hR g2 hL2 HRw2.out HB4.out HOW.out HG6.out HOWN6.out HV6.out hO6 hpl (by omega) (by omega) (by omega) (by omega) (by omega)
    · go_simp
      refine hK _ _ ?_
      clear hK K
      refine wpAnyIn_ready (rs := [0, 2]) (by kernel_rfl) (by simp) ?_
      refine AllReadyIn.cons rfl (fun K hK => ?_) (AllReadyIn.cons rfl (fun K hK => ?_) AllReadyIn.nil)
      · go_simp
        refine hK _ _ ?_
        clear hK K
        refine wpAnyIn_ready (rs := [2]) (by kernel_rfl) (by simp) ?_
        refine AllReadyIn.cons rfl (fun K hK => ?_) AllReadyIn.nil
        go_simp
        refine ⟨trivial, fun h => (by cases h), (CallsIn.inRound (W0.heap.size + 1) (callsIn_wide.2 kcl.out)).mono ?_⟩
        rintro e w4 ⟨u, rfl, how, hb4⟩
        have HOW := Lib.hid how
        have HB4 := Lib.hid ((Below.refl W2.heap.size W2).drew.trans hb4)
        obtain ⟨au, cu, rfl, _, _⟩ := how
        simp only [List.length_map, List.length_range] at HOW
        have hO4 : w4.heap[w.heap.size]? = some (.cells #[v] 29 (0, 0)) := (HB4.out.block _ (blk_lt hO2)).trans hO2
        have hc4 : w4.cell? ⟨w.heap.size, 0, none⟩ = some v := by simp [World.cell?, hO4]
        have hl4 : w.heap.size < w4.heap.size := blk_lt hO4
        clear hb4
        refine hK _ _ ?_
        clear hK K
        refine wpAnyIn_ready (rs := [3]) (by kernel_rfl) (by simp) ?_
        refine AllReadyIn.cons rfl (fun K hK => ?_) AllReadyIn.nil
        go_simp
        refine hK _ _ ?_
        clear hK K
        refine wpAnyIn_ready (rs := [4]) (by kernel_rfl) (by simp) ?_
        refine AllReadyIn.cons rfl (fun K hK => ?_) AllReadyIn.nil
        refine step_append_row_in w4 (by rfl) _ _ (by rfl) (W1.heap.size + 4) v _ us (by rfl) (HRw2.out.below HB4.out).own (by rfl) (by rfl) hul (by have := HB4.out.size; omega) ?_
        intro v6 w6 hown6 hg6 hv6
        have hO6 : w6.heap[w.heap.size]? = some (.cells #[v] 29 (0, 0)) := (hg6.block _ hl4 (fun e => by have := (HRw2.out.base_le _ (.inl e.symm)).1; omega)).trans hO4
        have hc6 : w6.cell? ⟨w.heap.size, 0, none⟩ = some v := by simp [World.cell?, hO6]
        have hf6 : w6.frozen? ⟨w.heap.size, 0, none⟩ = false := by simp [World.frozen?, hO6]
        have HOWN6 := Lib.hid hown6
        have HG6 := Lib.hid hg6
        have HV6 := Lib.hid hv6
        clear hown6 hg6 hv6
        obtain ⟨gv, cv, rfl⟩ := ownsRow_succ6 HOWN6.out
        refine hK _ _ ?_
        clear hK K
        refine wpAnyIn_ready (rs := [5]) (by kernel_rfl) (by simp) ?_
        refine AllReadyIn.cons rfl (fun K hK => ?_) AllReadyIn.nil
        go_simp
        refine hK _ _ ?_
        clear hK K
        refine wpAnyIn_done (by kernel_rfl) ?_ _
        gi_wp2
        exact round_done _ (by rw [hrec]) hbW hK hF hR g2 hL2 HRw2.out HB4.out HOW.out HG6.out HOWN6.out HV6.out hO6 hpl (by omega) (by omega) (by omega) (by omega) (by omega)
      · go_simp
        refine ⟨trivial, fun h => (by cases h), (CallsIn.inRound (W0.heap.size + 1) (callsIn_wide.2 kcl.out)).mono ?_⟩
        rintro e w4 ⟨u, rfl, how, hb4⟩
        have HOW := Lib.hid how
        have HB4 := Lib.hid ((Below.refl W2.heap.size W2).drew.trans hb4)
        obtain ⟨au, cu, rfl, _, _⟩ := how
        simp only [List.length_map, List.length_range] at HOW
        have hO4 : w4.heap[w.heap.size]? = some (.cells #[v] 29 (0, 0)) := (HB4.out.block _ (blk_lt hO2)).trans hO2
        have hc4 : w4.cell? ⟨w.heap.size, 0, none⟩ = some v := by simp [World.cell?, hO4]
        have hl4 : w.heap.size < w4.heap.size := blk_lt hO4
        clear hb4
        refine hK _ _ ?_
        clear hK K
        refine wpAnyIn_ready (rs := [0, 3]) (by kernel_rfl) (by simp) ?_
        refine AllReadyIn.cons rfl (fun K hK => ?_) (AllReadyIn.cons rfl (fun K hK => ?_) AllReadyIn.nil)
        · go_simp
          refine hK _ _ ?_
          clear hK K
          refine wpAnyIn_ready (rs := [3]) (by kernel_rfl) (by simp) ?_
          refine AllReadyIn.cons rfl (fun K hK => ?_) AllReadyIn.nil
          go_simp
          refine hK _ _ ?_
          clear hK K
          refine wpAnyIn_ready (rs := [4]) (by kernel_rfl) (by simp) ?_
          refine AllReadyIn.cons rfl (fun K hK => ?_) AllReadyIn.nil
          refine step_append_row_in w4 (by rfl) _ _ (by rfl) (W1.heap.size + 4) v _ us (by rfl) (HRw2.out.below HB4.out).own (by rfl) (by rfl) hul (by have := HB4.out.size; omega) ?_
          intro v6 w6 hown6 hg6 hv6
          have hO6 : w6.heap[w.heap.size]? = some (.cells #[v] 29 (0, 0)) := (hg6.block _ hl4 (fun e => by have := (HRw2.out.base_le _ (.inl e.symm)).1; omega)).trans hO4
          have hc6 : w6.cell? ⟨w.heap.size, 0, none⟩ = some v := by simp [World.cell?, hO6]
          have hf6 : w6.frozen? ⟨w.heap.size, 0, none⟩ = false := by simp [World.frozen?, hO6]
          have HOWN6 := Lib.hid hown6
          have HG6 := Lib.hid hg6
          have HV6 := Lib.hid hv6
          clear hown6 hg6 hv6
          obtain ⟨gv, cv, rfl⟩ := ownsRow_succ6 HOWN6.out
          refine hK _ _ ?_
          clear hK K
          refine wpAnyIn_ready (rs := [5]) (by kernel_rfl) (by simp) ?_
          refine AllReadyIn.cons rfl (fun K hK => ?_) AllReadyIn.nil
          go_simp
          refine hK _ _ ?_
          clear hK K
          refine wpAnyIn_done (by kernel_rfl) ?_ _
          gi_wp2
          exact round_done _ (by rw [hrec]) hbW hK hF hR g2 hL2 HRw2.out HB4.out HOW.out HG6.out HOWN6.out HV6.out hO6 hpl (by omega) (by omega) (by omega) (by omega) (by omega)
        · go_simp
          refine hK _ _ ?_
          clear hK K
          refine wpAnyIn_ready (rs := [0]) (by kernel_rfl) (by simp) ?_
          refine AllReadyIn.cons rfl (fun K hK => ?_) AllReadyIn.nil
          go_simp
          refine hK _ _ ?_
          clear hK K
          refine wpAnyIn_ready (rs := [4]) (by kernel_rfl) (by simp) ?_
          refine AllReadyIn.cons rfl (fun K hK => ?_) AllReadyIn.nil
          refine step_append_row_in w4 (by rfl) _ _ (by rfl) (W1.heap.size + 4) v _ us (by rfl) (HRw2.out.below HB4.out).own (by rfl) (by rfl) hul (by have := HB4.out.size; omega) ?_
          intro v6 w6 hown6 hg6 hv6
          have hO6 : w6.heap[w.heap.size]? = some (.cells #[v] 29 (0, 0)) := (hg6.block _ hl4 (fun e => by have := (HRw2.out.base_le _ (.inl e.symm)).1; omega)).trans hO4
          have hc6 : w6.cell? ⟨w.heap.size, 0, none⟩ = some v := by simp [World.cell?, hO6]
          have hf6 : w6.frozen? ⟨w.heap.size, 0, none⟩ = false := by simp [World.frozen?, hO6]
          have HOWN6 := Lib.hid hown6
          have HG6 := Lib.hid hg6
          have HV6 := Lib.hid hv6
          clear hown6 hg6 hv6
          obtain ⟨gv, cv, rfl⟩ := ownsRow_succ6 HOWN6.out
          refine hK _ _ ?_
          clear hK K
          refine wpAnyIn_ready (rs := [5]) (by kernel_rfl) (by simp) ?_
          refine AllReadyIn.cons rfl (fun K hK => ?_) AllReadyIn.nil
          go_simp
          refine hK _ _ ?_
          clear hK K
          refine wpAnyIn_done (by kernel_rfl) ?_ _
          gi_wp2
          exact round_done _ (by rw [hrec]) hbW hK hF hR g2 hL2 HRw2.out HB4.out HOW.out HG6.out HOWN6.out HV6.out hO6 hpl (by omega) (by omega) (by omega) (by omega) (by omega)
end Go.Proofs.Ytkkjgcpkimjfkaa
