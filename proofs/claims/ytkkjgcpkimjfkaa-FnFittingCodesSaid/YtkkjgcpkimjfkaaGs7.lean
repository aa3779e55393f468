/- A code, drawn, the reader's blocks below a base of their own; guesses, drawn. -/
import Derived.Test.YtkkjgcpkimjfkaaProg
import Derived.Test.YtkkjgcpkimjfkaaGs6
import Derived.Test.YtkkjgcpkimjfkaaCodes2
import Derived.Test.YtkkjgcpkimjfkaaCodes3
import Derived.Maps.AppendAt
namespace Go.Proofs.Ytkkjgcpkimjfkaa
open Go.RowKit

set_option maxHeartbeats 1000000 in
theorem code_u (R N p c A : Nat) (n : Int) (hp : 1 ≤ p) (hp2 : p ≤ 3) (hc : 1 ≤ c) (hc2 : c ≤ 10) (hn : 0 ≤ n) (hn2 : n ≤ 1000) (hN : N ≤ 1000000) (w : World) (h : RdU w R N A) (hA : A ≤ w.heap.size) :
    Calls Try.prog 59 #[.pointer (some ⟨R, 0, none⟩), .int .i64 p, .int .i64 c, .int .i64 n] w fun e w' => ∃ (v : Value) (L : List Int), e = .returned v ∧ w'.ownsRow w.heap.size 3 1 v L.length (L.map (Value.int .i64)) ∧ L.length ≤ 4 ∧ RdU w' R (N + 5) A ∧ w.grownBy w' (some R) := by
  obtain ⟨B, hB⟩ : ∃ B, B = w.heap.size := ⟨_, rfl⟩
  have hR : R < B := by rw [hB]; exact Nat.lt_of_lt_of_le h.1 hA
  have ha : Below B w (w.alloc (.cells #[] 3)) := by rw [hB]; exact (Below.refl _ _).alloc (Nat.le_refl _) _
  have hAB : A ≤ B := by rw [hB]; exact hA
  rw [← hB]
  have HG := Lib.hid (grownBy_any (some R) (show Below w.heap.size w (w.alloc (.cells #[] 3)) by rw [← hB]; exact ha))
  have HO := Lib.hid (show (w.alloc (.cells #[] 3)).ownsRow B 3 1 (.slice (some ⟨w.heap.size, 0, none⟩) 0 0) 0 [] by rw [hB]; exact World.ownsRow_made w #[] 0 (Nat.le_refl _) (by simp [maxLen]) (by simp))
  have HR := Lib.hid (h.below (ha.mono hAB))
  have HAB := Lib.hid hAB
  have HB := Lib.hid hB
  have hmx : max (c : Int) 1 = c := by omega
  clear h ha hA hAB
  go_enter Try.func59, Try.ntmps59
  go_wp2_with fail
  go_loopw [9, 10] (fun vo vk wr => ∃ (L : List Int), L.length ≤ p ∧ vk = .int .i64 (L.length : Nat) ∧
      wr.ownsRow B 3 1 vo L.length (L.map (Value.int .i64)) ∧ RdU wr R (N + L.length) A ∧ w.grownBy wr (some R)) (fun _ vk _ => p - (intOf vk).toNat)
  case atStart => exact ⟨[], by simp, rfl, HO.out, HR.out, HG.out⟩
  case round =>
    clear HO HR HG
    obtain ⟨L, hk, rfl, hown, hr, hg⟩ := hrel
    have hsz : B ≤ wr.heap.size := by rw [HB.out]; exact hg.size
    have HBg := Lib.hid hg
    clear hg
    by_cases hlt : L.length < p
    · go_wp2_with fail
      refine (pick_u R (N + L.length) c (by omega) (by omega) (by omega) _ A hr).mono ?_
      rintro e w3 ⟨x, rfl, hx0, hx1, hr3, hg3⟩
      have hown3 := owns_grown hown hg3 hR
      have hsz3 : B ≤ w3.heap.size := Nat.le_trans hsz hg3.size
      have HG3 := Lib.hid (grownBy_then2 HBg.out hg3)
      have hL2 : L.length < 1000000000 := by omega
      clear hown hr hg3 HBg
      go_wp2_with (first | (at_builtin; (refine wpList_append_int _ rfl _ _ rfl B _ L x hown3 rfl rfl hL2 hsz3 ?_); intro v2 w4 hown4 hb4))
      go_roundw
      case rel => exact ⟨L ++ [x], by simp; omega, by simp, hown4, (hr3.below (hb4.mono HAB.out)).more (by simp; omega), grownBy_then HG3.out (by rw [← HB.out]; exact hb4)⟩
      case measure => simp [intOf]; omega
    · obtain ⟨g, cap, rfl, hbg, hgl, _, _⟩ := owns_form hown (by omega)
      have hL1 : 0 < L.length := by omega
      have hL2 : L.length < 1000000000 := by omega
      go_wp2_with fail
      refine (odd_u R (N + L.length) n hn (by omega) (by omega) _ A hr).mono ?_
      rintro e w3 ⟨b, rfl, hr3, hg3⟩
      have HO3 := Lib.hid (owns_grown hown hg3 hR)
      have HG3 := Lib.hid (grownBy_then2 HBg.out hg3)
      have hsz3 : B ≤ w3.heap.size := Nat.le_trans hsz hg3.size
      clear hown hr hg3 HBg hsz hgl
      cases b with
      | false =>
        go_wp2_with fail
        go_ret
        exact ⟨_, L, rfl, HO3.out, by omega, hr3.more (by omega), HG3.out⟩
      | true =>
        go_wp2_with fail
        refine (pick_u R (N + L.length + 1) 2 (by omega) (by omega) (by omega) _ A hr3).mono ?_
        rintro e w4 ⟨v, rfl, hv0, hv1, hr4, hg4⟩
        have hown4 := owns_grown HO3.out hg4 hR
        have HO4 := Lib.hid hown4
        have HG4 := Lib.hid (grownBy_then2 HG3.out hg4)
        have c0 := HO4.out.cellAt 0 (by omega)
        rw [ints_getD L 0 hL1] at c0
        have f0 := HO4.out.frozenAt 0
        have s4 : B ≤ w4.heap.size := Nat.le_trans hsz3 hg4.size
        clear HO3 HG3 hr3 hg4 hsz3
        have hv : v = 0 ∨ v = 1 := by omega
        rcases hv with rfl | rfl
        · go_wp2_with (first | (at_builtin; (refine wpList_append_int _ rfl _ _ rfl B _ L _ hown4 rfl rfl hL2 s4 ?_); intro v2 w6 hown6 hb6))
          go_ret
          exact ⟨_, L ++ [0], rfl, hown6, by simp; omega, (hr4.below (hb6.mono HAB.out)).more (by omega), grownBy_then HG4.out (by rw [← HB.out]; exact hb6)⟩
        · clear hown4
          go_wp2_with fail
          go_ret
          have ha : Below B w4 (w4.setCell ⟨g, 0, none⟩ (.int .i64 c)) := (Below.refl _ _).setCell hbg _
          exact ⟨_, L.set 0 c, rfl, owns_set0 HO4.out rfl c, by simp; omega, (hr4.below (ha.mono HAB.out)).more (by omega), grownBy_then HG4.out (by rw [← HB.out]; exact ha)⟩


/-- the cells of guesses -/
def flatG : List (Value × Gs) → List Value
  | [] => []
  | t :: T => t.1 :: .int .i64 t.2.right :: .int .i64 t.2.near :: flatG T
theorem flatG_len : ∀ T : List (Value × Gs), (flatG T).length = T.length * 3
  | [] => rfl
  | t :: T => by simp only [flatG, List.length_cons, flatG_len T]; omega
theorem flatG_snoc (t : Value × Gs) : ∀ T : List (Value × Gs), flatG (T ++ [t]) = flatG T ++ [t.1, .int .i64 t.2.right, .int .i64 t.2.near]
  | [] => rfl
  | u :: T => by simp only [List.cons_append, flatG, flatG_snoc t T]
theorem flatG_at (d : Value × Gs) : ∀ (T : List (Value × Gs)) (j : Nat), j < T.length → (flatG T)[j * 3]? = some (T.getD j d).1 ∧ (flatG T)[j * 3 + 1]? = some (.int .i64 (T.getD j d).2.right) ∧ (flatG T)[j * 3 + 2]? = some (.int .i64 (T.getD j d).2.near)
  | [], j, h => absurd h (by simp)
  | t :: T, 0, _ => ⟨rfl, rfl, rfl⟩
  | t :: T, j + 1, h => by
    have := flatG_at d T j (by simpa using h)
    rw [show (j + 1) * 3 = j * 3 + 1 + 1 + 1 by omega]
    simpa [flatG] using this

theorem YtkkjgcpkimjfkaainfoGs : (Try.prog.info? 55).map (fun i => (i.zero, i.size, i.bytes)) = some (some (.agg #[.slice none 0 0, .int .i64 0, .int .i64 0]), 3, 40) := by kernel_rfl

/-- 'append(list, guess)' to a slice of guesses of the call's own. -/
theorem wpList_append_guess (w : World) {ops : Array Oper} {rest : List Oper} {o : Oper} {a : Act} {Q : Exit → Act → World → Prop} (hgd : o.guard = none) (s x : Operand)
    (ho : o.op = Op.call { callee := Callee.builtin Builtin.append, args := #[s, x], argTypes := #[37, 37] })
    (base : Nat) (v : Value) (T : List (Value × Gs)) (t : Value × Gs) (hu : t.1.oneCell' = true) (hown : w.ownsRow base 55 3 v T.length (flatG T)) (hs : a.eval s = v) (hx : a.eval x = .slice (some ⟨w.heap.size, 0, none⟩) 1 1)
    (hL : T.length < 1000000) (hb : base ≤ w.heap.size)
    (h : ∀ v' w', w'.ownsRow base 55 3 v' (T ++ [t]).length (flatG (T ++ [t])) → w.grownBy w' v.ownBlock → (v'.ownBlock = v.ownBlock ∨ ∃ b, v'.ownBlock = some b ∧ w.heap.size ≤ b) → wpList Try.prog ops Q rest (a.put o.dst v') w') :
    wpList Try.prog ops Q (o :: rest) a (w.alloc (.cells #[t.1, .int .i64 t.2.right, .int .i64 t.2.near] 55)) := by
  obtain ⟨i0, hi, hz0, hz1, hz2⟩ := info_parts YtkkjgcpkimjfkaainfoGs
  refine wpList_append_own_at _ hgd s x 37 ho base 55 i0 _ 3 40 Try.underlying37 hi hz0 hz1 hz2 rfl (by decide) v T.length _ hs (hown.alloc _) ⟨w.heap.size, 0, none⟩ 1 1 [t.1, .int .i64 t.2.right, .int .i64 t.2.near] hx rfl ?_ ?_ ?_ ?_ ?_ ?_
  · intro j y hj
    match j, hj with
    | 0, hj => simp at hj; subst hj; simp [Addr.add]
    | 1, hj => simp at hj; subst hj; simp [Addr.add]
    | 2, hj => simp at hj; subst hj; simp [Addr.add]
  · intro y hy
    simp at hy
    rcases hy with rfl | rfl | rfl
    · exact hu
    · rfl
    · rfl
  · simp only [maxLen]; omega
  · omega
  · simp; omega
  · intro v' w' h1 h2 _ h4
    have e1 : (T ++ [t]).length = T.length + 1 := by simp
    refine h v' w' (by rw [e1, flatG_snoc]; exact h1) ?_ ?_
    · refine ⟨h2.os, h2.tape, h2.output, ?_, fun k hk hne => ?_⟩
      · have := h2.size; simp at this; omega
      · rw [h2.block k (by simp; omega) hne]
        exact ((Below.refl w.heap.size w).alloc (Nat.le_refl _) _).block k hk
    · rcases h4 with e | e
      · exact .inl e
      · exact .inr ⟨_, e, by simp⟩

/-- v is a slice of guesses of the call's own, their codes apart from it -/
structure DG (w : World) (base : Nat) (v : Value) (T : List (Value × Gs)) : Prop where
  own : w.ownsRow base 55 3 v T.length (flatG T)
  row : ∀ t ∈ T, Ow w base t.1 t.2.code
  sep : ∀ t ∈ T, ∀ b, blockOf t.1 t.2.code = some b → v.ownBlock ≠ some b
section
variable {w w' : World} {base : Nat} {v : Value} {T : List (Value × Gs)}
theorem DG.kept (h : DG w base v T) {row : Option Nat} (g : w.grownBy w' row) (hne : ∀ b, row = some b → v.ownBlock ≠ some b ∧ ∀ t ∈ T, blockOf t.1 t.2.code ≠ some b) : DG w' base v T := by
  refine ⟨h.own.kept g ?_, fun t ht => (h.row t ht).grown g ?_, h.sep⟩
  · cases hv : v.ownBlock with
    | none => exact .inl rfl
    | some b => right; intro e; exact (hne b e.symm).1 hv
  · cases hv : blockOf t.1 t.2.code with
    | none => exact .inl rfl
    | some b => right; intro e; exact (hne b e.symm).2 t ht hv
theorem DG.below (h : DG w base v T) (b : Below w.heap.size w w') : DG w' base v T := h.kept (grownBy_any none b) (fun _ e => by cases e)
theorem DG.reader (h : DG w base v T) {R : Nat} (g : w.grownBy w' (some R)) (hR : R < base) : DG w' base v T := h.kept g (fun b e => by
  injection e with e
  subst e
  exact ⟨fun e => by have := (h.own.lt _ e).1; omega, fun t ht e => by have := (h.row t ht).block_ge _ e; omega⟩)
theorem DG.push {w3 : World} {v' : Value} {t : Value × Gs} (h : DG w base v T) (ho : Ow w base t.1 t.2.code) (hs : ∀ b, blockOf t.1 t.2.code = some b → v.ownBlock ≠ some b)
    (g3 : w.grownBy w3 v.ownBlock) (hown : w3.ownsRow base 55 3 v' (T ++ [t]).length (flatG (T ++ [t]))) (hv' : v'.ownBlock = v.ownBlock ∨ ∃ b, v'.ownBlock = some b ∧ w.heap.size ≤ b) : DG w3 base v' (T ++ [t]) := by
  have key : ∀ u ∈ T ++ [t], Ow w base u.1 u.2.code ∧ ∀ b, blockOf u.1 u.2.code = some b → v.ownBlock ≠ some b := by
    intro u hu
    rcases List.mem_append.1 hu with hu | hu
    · exact ⟨h.row u hu, h.sep u hu⟩
    · rw [List.mem_singleton.1 hu]; exact ⟨ho, hs⟩
  refine ⟨hown, fun u hu => (key u hu).1.grown g3 ?_, fun u hu b hb hc => ?_⟩
  · cases hb : blockOf u.1 u.2.code with
    | none => exact .inl rfl
    | some b => right; intro e; exact (key u hu).2 b hb e.symm
  · rcases hv' with e | ⟨d, e, hd⟩
    · exact (key u hu).2 b hb (e.symm.trans hc)
    · rw [e] at hc
      injection hc with hc
      have := (key u hu).1.rd.block_lt b hb
      omega
theorem DG.rd (h : DG w base v T) (hm : T.length ≤ maxLen) : RdG w v (T.map (·.2)) := by
  have hown := h.own
  have hl : (T.map (·.2)).length = T.length := by simp
  rcases Nat.eq_zero_or_pos T.length with h0 | h0
  · have e : T = [] := List.eq_nil_of_length_eq_zero h0
    subst e
    rcases hown.2 with ⟨rfl, _⟩ | ⟨g, cap, cur, rfl, _⟩
    · exact RdG.nil _ _ _
    · exact RdG.nil _ _ _
  · obtain ⟨g, cap, rfl, hb, _⟩ := hown.form h0
    refine ⟨_, cap, by rw [hl], by rw [hl]; exact hm, fun _ => ⟨g, 0, rfl, fun j hj => ?_⟩⟩
    rw [hl] at hj
    obtain ⟨f0, f1, f2⟩ := flatG_at (.slice none 0 0, gNil) T j hj
    have hgd : (T.map (·.2)).getD j gNil = (T.getD j (.slice none 0 0, gNil)).2 := by
      simp [List.getD, hj]
    have hmem : T.getD j (.slice none 0 0, gNil) ∈ T := by simp [List.getD, hj]
    rw [hgd, Nat.zero_add]
    exact ⟨_, (hown.cellAt (j * 3) (by omega)).trans f0, (h.row _ hmem).rd, (hown.cellAt (j * 3 + 1) (by omega)).trans f1, (hown.cellAt (j * 3 + 2) (by omega)).trans f2⟩
end
theorem DG.made (w : World) (base : Nat) (hb : base ≤ w.heap.size) : DG (w.alloc (.cells #[] 55)) base (.slice (some ⟨w.heap.size, 0, none⟩) 0 0) [] :=
  ⟨World.ownsRow_made w #[] 0 hb (by simp [maxLen]) (by simp), fun t ht => absurd ht (by simp), fun t ht => absurd ht (by simp)⟩

theorem grownBy_own {w w1 w2 : World} {R : Nat} {row : Option Nat} (g : w.grownBy w1 (some R)) (g2 : w1.grownBy w2 row) (h : ∀ b, row = some b → w.heap.size ≤ b) : w.grownBy w2 (some R) := by
  refine ⟨g2.os.trans g.os, g2.tape.trans g.tape, g2.output.trans g.output, Nat.le_trans g.size g2.size, fun k hk hne => ?_⟩
  rw [g2.block k (Nat.lt_of_lt_of_le hk g.size) (fun e => by have := h k e.symm; omega)]
  exact g.block k hk hne

theorem Ow.reader {w w' : World} {base R : Nat} {v : Value} {xs : List Int} (h : Ow w base v xs) (g : w.grownBy w' (some R)) (hR : R < base) : Ow w' base v xs := h.grown g (by
  cases hb : blockOf v xs with
  | none => exact .inl rfl
  | some b => right; intro e; injection e with e; have := h.block_ge b hb; omega)

theorem RA_bound (p c : Int) (xs ys : List Int) (h : xs.length ≤ 4) : -1 ≤ RA p c xs ys ∧ RA p c xs ys ≤ 4 := by
  unfold RA
  split
  · have := eqs_le xs ys xs.length; omega
  · omega
end Go.Proofs.Ytkkjgcpkimjfkaa
