/- Slices of ints: read ('Rd'), owned ('Ow'); the contracts of eqIntS, sameInts, markIntS, heldIntS, toIntS. -/
import Derived.Test.YtkkjgcpkimjfkaaProg
import Derived.Test.YtkkjgcpkimjfkaaBase
import Derived.Deep.QuietTactic
import Derived.BigQuiet
import Derived.WalkSmall
namespace Go.Proofs.Ytkkjgcpkimjfkaa
open Go.RowKit

/-- v is a slice of the numbers xs, which can be read in w. -/
def Rd (w : World) (v : Value) (xs : List Int) : Prop :=
  ∃ a cap, v = .slice a xs.length cap ∧ xs.length ≤ maxLen ∧ (xs ≠ [] → ∃ g off, a = some ⟨g, off, none⟩ ∧ ∀ j, j < xs.length → w.cell? ⟨g, off + j, none⟩ = some (.int .i64 (xs.getD j 0)))

/-- v is a slice of the numbers xs in a block from base on, which can be read and written in w. -/
def Ow (w : World) (base : Nat) (v : Value) (xs : List Int) : Prop :=
  ∃ a cap, v = .slice a xs.length cap ∧ xs.length ≤ maxLen ∧ (xs ≠ [] → ∃ g off, a = some ⟨g, off, none⟩ ∧ base ≤ g ∧
    ∀ j, j < xs.length → w.cell? ⟨g, off + j, none⟩ = some (.int .i64 (xs.getD j 0)) ∧ w.frozen? ⟨g, off + j, none⟩ = false)

theorem Ow.rd {w : World} {base : Nat} {v : Value} {xs : List Int} (h : Ow w base v xs) : Rd w v xs := by
  obtain ⟨a, cap, e, hm, h⟩ := h
  exact ⟨a, cap, e, hm, fun hn => by obtain ⟨g, off, e1, _, h1⟩ := h hn; exact ⟨g, off, e1, fun j hj => (h1 j hj).1⟩⟩

theorem Rd.below {w w' : World} {v : Value} {xs : List Int} (h : Rd w v xs) (b : Below w.heap.size w w') : Rd w' v xs := by
  obtain ⟨a, cap, e, hm, h⟩ := h
  refine ⟨a, cap, e, hm, fun hn => ?_⟩
  obtain ⟨g, off, e1, h1⟩ := h hn
  refine ⟨g, off, e1, fun j hj => ?_⟩
  have := h1 j hj
  exact (b.cell (p := ⟨g, off + j, none⟩) (World.block_lt_of_cell? w _ this)).trans this

theorem Ow.below {w w' : World} {base : Nat} {v : Value} {xs : List Int} (h : Ow w base v xs) (b : Below w.heap.size w w') : Ow w' base v xs := by
  obtain ⟨a, cap, e, hm, h⟩ := h
  refine ⟨a, cap, e, hm, fun hn => ?_⟩
  obtain ⟨g, off, e1, hb, h1⟩ := h hn
  refine ⟨g, off, e1, hb, fun j hj => ?_⟩
  have := h1 j hj
  have lt := World.block_lt_of_cell? w _ this.1
  exact ⟨(b.cell (p := ⟨g, off + j, none⟩) lt).trans this.1, (b.frozen (p := ⟨g, off + j, none⟩) lt).trans this.2⟩

theorem Ow.mono {w : World} {base base' : Nat} {v : Value} {xs : List Int} (h : Ow w base v xs) (hb : base' ≤ base) : Ow w base' v xs := by
  obtain ⟨a, cap, e, hm, h⟩ := h
  exact ⟨a, cap, e, hm, fun hn => by obtain ⟨g, off, e1, h2, h1⟩ := h hn; exact ⟨g, off, e1, by omega, h1⟩⟩

theorem Ow.nil (w : World) (base : Nat) (a : Option Addr) (cap : Nat) : Ow w base (.slice a 0 cap) [] :=
  ⟨a, cap, rfl, by simp [maxLen], fun h => absurd rfl h⟩
theorem Rd.nil (w : World) (a : Option Addr) (cap : Nat) : Rd w (.slice a 0 cap) [] :=
  ⟨a, cap, rfl, by simp [maxLen], fun h => absurd rfl h⟩

theorem ints_getD (xs : List Int) (j : Nat) (hj : j < xs.length) : (xs.map (Value.int .i64))[j]? = some (.int .i64 (xs.getD j 0)) := by
  simp [List.getD, hj]

/-- A row that the call has made (by make, by append) is owned. -/
theorem Ow.of_row {w : World} {base n : Nat} {v : Value} {xs : List Int} (h : w.ownsRow base 3 1 v n (xs.map (Value.int .i64))) (hm : xs.length ≤ maxLen) : Ow w base v xs := by
  have hn : xs.length = n := by simpa using h.1
  subst hn
  rcases h.2 with ⟨rfl, h0⟩ | ⟨g, cap, cur, rfl, hb, _⟩
  · have : xs = [] := List.eq_nil_of_length_eq_zero h0
    subst this
    exact Ow.nil _ _ _ _
  · refine ⟨_, cap, rfl, hm, fun _ => ⟨g, 0, rfl, hb, fun j hj => ⟨?_, ?_⟩⟩⟩
    · rw [Nat.zero_add, h.cellAt j (by omega), ints_getD xs j hj]
    · rw [Nat.zero_add]; exact h.frozenAt j

theorem Ow.of_at {w : World} {base B n cap : Nat} {xs : List Int} (h : RowAt w B n (fun j => xs.getD j 0)) (hn : xs.length = n) (hm : n ≤ maxLen) (hb : base ≤ B) : Ow w base (.slice (some ⟨B, 0, none⟩) n cap) xs := by
  subst hn
  exact ⟨_, cap, rfl, hm, fun _ => ⟨B, 0, rfl, hb, fun j hj => by rw [Nat.zero_add]; exact h j hj⟩⟩

/-- A slice that came in can be read. -/
theorem Rd.of_row {w : World} {a : Option Addr} {len cap : Nat} {zs : List Int} (h : IsRow .i64 w a len cap zs) : Rd w (.slice a len cap) (zs.take len) ∧ len ≤ maxLen ∧ (zs.take len).length = len := by
  rcases h with ⟨rfl, rfl, rfl, rfl⟩ | ⟨x, rfl, hl, hm, hz, hcell, _⟩
  · exact ⟨Rd.nil _ _ _, by simp [maxLen], rfl⟩
  · have hlen : (zs.take len).length = len := by simp; omega
    refine ⟨⟨some x, cap, by rw [hlen], by rw [hlen]; omega, fun hn => ?_⟩, by omega, hlen⟩
    obtain ⟨b, off, spot⟩ := x
    have hpos : 0 < len := by
      rcases Nat.eq_zero_or_pos len with h0 | h0
      · subst h0; simp at hn
      · exact h0
    have h0 := hcell 0 (by omega)
    have hspot : spot = none := by simpa [Addr.add] using World.cell?_spot h0
    subst hspot
    refine ⟨b, off, rfl, fun j hj => ?_⟩
    rw [hlen] at hj
    have h1 := hcell j (by omega)
    rw [Addr.add_lit] at h1
    rw [h1]
    simp [List.getD, hj]

theorem getD_ext {xs ys : List Int} (hl : xs.length = ys.length) (h : ∀ j, j < xs.length → xs.getD j 0 = ys.getD j 0) : xs = ys := by
  apply List.ext_getElem hl
  intro j h1 h2
  have := h j h1
  simpa [List.getD, h1, h2] using this

theorem YtkkjgcpkimjfkaainfoInt : (Try.prog.info? 3).map (fun i => (i.zero, i.size, i.bytes)) = some (some (.int .i64 0), 1, 8) := by kernel_rfl

/-- 'append(out, x)' of one number, to a slice of the call's own. -/
theorem wpList_append_int (w : World) {ops : Array Oper} {rest : List Oper} {o : Oper} {a : Act} {Q : Exit → Act → World → Prop} (hgd : o.guard = none) (s x : Operand)
    (ho : o.op = Op.call { callee := Callee.builtin Builtin.append, args := #[s, x], argTypes := #[22, 22] })
    (base : Nat) (v : Value) (L : List Int) (F : Int) (hown : w.ownsRow base 3 1 v L.length (L.map (Value.int .i64))) (hs : a.eval s = v) (hx : a.eval x = .slice (some ⟨w.heap.size, 0, none⟩) 1 1)
    (hL : L.length < 1000000000) (hb : base ≤ w.heap.size)
    (h : ∀ v' w', w'.ownsRow base 3 1 v' (L ++ [F]).length ((L ++ [F]).map (Value.int .i64)) → Below base w w' → wpList Try.prog ops Q rest (a.put o.dst v') w') :
    wpList Try.prog ops Q (o :: rest) a (w.alloc (.cells #[.int .i64 F] 3)) := by
  obtain ⟨i0, hi, hz0, hz1, hz2⟩ := info_parts YtkkjgcpkimjfkaainfoInt
  refine wpList_append_own _ hgd s x 22 ho base 3 i0 (.int .i64 0) 1 8 Try.underlying22 hi hz0 hz1 hz2 rfl (by decide) v L.length _ hs (hown.alloc _) ⟨w.heap.size, 0, none⟩ 1 1 [.int .i64 F] hx rfl ?_ ?_ ?_ ?_ ?_ ?_
  · intro j u hj
    match j, hj with
    | 0, hj => simp at hj; subst hj; simp [Addr.add]
  · intro u hu; simp at hu; subst hu; rfl
  · simp only [maxLen]; omega
  · omega
  · simp; omega
  · intro v' w' h1 h2 _
    refine h v' w' ?_ ?_
    · simpa using h1
    · exact ((Below.refl base w).alloc hb _).grown h2 (by simp; omega) (fun k hk => (hown.lt k hk).1)

theorem owns_below {w w' : World} {base e size : Nat} {v : Value} {n : Nat} {xs : List Value} (h : w.ownsRow base e size v n xs) (b : Below w.heap.size w w') : w'.ownsRow base e size v n xs :=
  h.kept (⟨b.os, b.tape, b.output, b.size, fun k hk _ => b.block k hk⟩ : w.grownBy w' none) (by cases v.ownBlock <;> simp)

set_option maxHeartbeats 400000 in
theorem eqIntS_yes (va vb : Value) (xs : List Int) (w : World) (ha : Rd w va xs) (hb : Rd w vb xs) :
    Calls Try.prog 16 #[va, vb] w fun e w' => e = .returned (.bool true) ∧ Below w.heap.size w w' := by
  obtain ⟨a, ca, rfl, hm, ha⟩ := ha
  obtain ⟨b, cb, rfl, _, hb⟩ := hb
  unfold maxLen at hm
  go_enter Try.func16, Try.ntmps16
  go_wp2_with fail
  go_loopw [5] (fun v wr => ∃ k : Nat, k ≤ xs.length ∧ v = .int .i64 k ∧ Below w.heap.size w wr) (fun v _ => xs.length - (intOf v).toNat)
  case atStart => exact ⟨0, by omega, rfl, Below.refl _ _⟩
  case round =>
    obtain ⟨k, hk, rfl, hbel⟩ := hrel
    by_cases hlt : k < xs.length
    · have hne : xs ≠ [] := by intro e; rw [e] at hlt; simp at hlt
      obtain ⟨g, off, rfl, hc⟩ := ha hne
      obtain ⟨g', off', rfl, hc'⟩ := hb hne
      have h1 := hc k hlt
      have h2 := hc' k hlt
      have h1w := (hbel.cell (p := ⟨g, off + k, none⟩) (World.block_lt_of_cell? w _ h1)).trans h1
      have h2w := (hbel.cell (p := ⟨g', off' + k, none⟩) (World.block_lt_of_cell? w _ h2)).trans h2
      generalize xs.getD k 0 = x at h1w h2w
      clear h1 h2 hc hc' ha hb
      have hi0 : (0 : Int) ≤ (k : Int) := by omega
      have hi1 : (k : Int) < (xs.length : Int) := by omega
      go_wp2_with fail
      go_quiet (fail)
      go_wp2_with fail
      go_roundw
      case rel => exact ⟨k + 1, by omega, by go_num, below_drewN hbel _⟩
      case measure => simp [intOf]; omega
    · clear ha hb
      go_wp2_with fail
      go_ret
      exact ⟨rfl, hbel⟩
set_option maxHeartbeats 400000 in
theorem eqIntS_no (va vb : Value) (xs ys : List Int) (w : World) (ha : Rd w va xs) (hb : Rd w vb ys) (hxy : xs ≠ ys) :
    Calls Try.prog 16 #[va, vb] w fun e w' => e = .returned (.bool false) ∧ Below w.heap.size w w' := by
  obtain ⟨a, ca, rfl, hm, ha⟩ := ha
  obtain ⟨b, cb, rfl, hm', hb⟩ := hb
  unfold maxLen at hm hm'
  by_cases hl : xs.length = ys.length
  · have HN : Hid (xs ≠ ys) := hxy
    clear hxy
    rw [← hl] at hb ⊢
    have HL : Hid (xs.length = ys.length) := hl
    clear hl
    go_enter Try.func16, Try.ntmps16
    go_wp2_with fail
    go_loopw [5] (fun v wr => ∃ k : Nat, k ≤ xs.length ∧ v = .int .i64 k ∧ Hid (∀ j, j < k → xs.getD j 0 = ys.getD j 0) ∧ Below w.heap.size w wr) (fun v _ => xs.length - (intOf v).toNat)
    case atStart => exact ⟨0, by omega, rfl, fun j hj => by omega, Below.refl _ _⟩
    case round =>
      obtain ⟨k, hk, rfl, hpre, hbel⟩ := hrel
      by_cases hlt : k < xs.length
      · have hne : xs ≠ [] := by intro e; rw [e] at hlt; simp at hlt
        have hney : ys ≠ [] := by intro e; have := HL.out; rw [e] at this; simp only [List.length_nil] at this; omega
        obtain ⟨g, off, rfl, hc⟩ := ha hne
        obtain ⟨g', off', rfl, hc'⟩ := hb hney
        have h1 := hc k hlt
        have h2 := hc' k hlt
        have h1w := (hbel.cell (p := ⟨g, off + k, none⟩) (World.block_lt_of_cell? w _ h1)).trans h1
        have h2w := (hbel.cell (p := ⟨g', off' + k, none⟩) (World.block_lt_of_cell? w _ h2)).trans h2
        have hi0 : (0 : Int) ≤ (k : Int) := by omega
        have hi1 : (k : Int) < (xs.length : Int) := by omega
        by_cases e : xs.getD k 0 = ys.getD k 0
        · have hpre2 : Hid (∀ j, j < k + 1 → xs.getD j 0 = ys.getD j 0) := by
            intro j hj
            by_cases ej : j = k
            · rw [ej]; exact e
            · exact hpre.out j (by omega)
          rw [← e] at h2w
          generalize xs.getD k 0 = x at h1w h2w
          clear h1 h2 hc hc' ha hb e hpre hne hney
          go_wp2_with fail
          go_quiet (fail)
          go_wp2_with fail
          go_roundw
          case rel => exact ⟨k + 1, by omega, by go_num, hpre2, below_drewN hbel _⟩
          case measure => simp [intOf]; omega
        · have hb1 : (xs.getD k 0 != ys.getD k 0) = true := by simpa using e
          generalize xs.getD k 0 = x at h1w hb1
          generalize ys.getD k 0 = y at h2w hb1
          clear h1 h2 hc hc' ha hb e hpre hne hney
          go_wp2_with fail
          go_quiet (fail)
          go_wp2_with fail
          go_ret
          exact ⟨rfl, below_drewN hbel _⟩
      · exfalso
        have : k = xs.length := by omega
        subst this
        exact HN.out (getD_ext HL.out hpre.out)
  · have hd : ((xs.length : Int) != (ys.length : Int)) = true := by rw [bne_iff_ne]; omega
    clear hl hxy ha hb
    go_enter Try.func16, Try.ntmps16
    go_wp2_with fail
    go_ret
    exact ⟨rfl, Below.refl _ _⟩
set_option maxHeartbeats 400000 in
theorem sameInts_yes (va vb : Value) (xs : List Int) (w : World) (ha : Rd w va xs) (hb : Rd w vb xs) :
    Calls Try.prog 35 #[va, vb] w fun e w' => e = .returned (.bool true) ∧ Below w.heap.size w w' := by
  obtain ⟨a, ca, rfl, hm, ha⟩ := ha
  obtain ⟨b, cb, rfl, _, hb⟩ := hb
  unfold maxLen at hm
  go_enter Try.func35, Try.ntmps35
  go_wp2_with fail
  go_loopw [5] (fun v wr => ∃ k : Nat, k ≤ xs.length ∧ v = .int .i64 k ∧ Below w.heap.size w wr) (fun v _ => xs.length - (intOf v).toNat)
  case atStart => exact ⟨0, by omega, rfl, Below.refl _ _⟩
  case round =>
    obtain ⟨k, hk, rfl, hbel⟩ := hrel
    by_cases hlt : k < xs.length
    · have hne : xs ≠ [] := by intro e; rw [e] at hlt; simp at hlt
      obtain ⟨g, off, rfl, hc⟩ := ha hne
      obtain ⟨g', off', rfl, hc'⟩ := hb hne
      have h1 := hc k hlt
      have h2 := hc' k hlt
      have h1w := (hbel.cell (p := ⟨g, off + k, none⟩) (World.block_lt_of_cell? w _ h1)).trans h1
      have h2w := (hbel.cell (p := ⟨g', off' + k, none⟩) (World.block_lt_of_cell? w _ h2)).trans h2
      generalize xs.getD k 0 = x at h1w h2w
      clear h1 h2 hc hc' ha hb
      have hi0 : (0 : Int) ≤ (k : Int) := by omega
      have hi1 : (k : Int) < (xs.length : Int) := by omega
      go_wp2_with fail
      go_quiet (fail)
      go_wp2_with fail
      go_roundw
      case rel => exact ⟨k + 1, by omega, by go_num, below_drewN hbel _⟩
      case measure => simp [intOf]; omega
    · clear ha hb
      go_wp2_with fail
      go_ret
      exact ⟨rfl, hbel⟩
set_option maxHeartbeats 400000 in
theorem sameInts_no (va vb : Value) (xs ys : List Int) (w : World) (ha : Rd w va xs) (hb : Rd w vb ys) (hxy : xs ≠ ys) :
    Calls Try.prog 35 #[va, vb] w fun e w' => e = .returned (.bool false) ∧ Below w.heap.size w w' := by
  obtain ⟨a, ca, rfl, hm, ha⟩ := ha
  obtain ⟨b, cb, rfl, hm', hb⟩ := hb
  unfold maxLen at hm hm'
  by_cases hl : xs.length = ys.length
  · have HN : Hid (xs ≠ ys) := hxy
    clear hxy
    rw [← hl] at hb ⊢
    have HL : Hid (xs.length = ys.length) := hl
    clear hl
    go_enter Try.func35, Try.ntmps35
    go_wp2_with fail
    go_loopw [5] (fun v wr => ∃ k : Nat, k ≤ xs.length ∧ v = .int .i64 k ∧ Hid (∀ j, j < k → xs.getD j 0 = ys.getD j 0) ∧ Below w.heap.size w wr) (fun v _ => xs.length - (intOf v).toNat)
    case atStart => exact ⟨0, by omega, rfl, fun j hj => by omega, Below.refl _ _⟩
    case round =>
      obtain ⟨k, hk, rfl, hpre, hbel⟩ := hrel
      by_cases hlt : k < xs.length
      · have hne : xs ≠ [] := by intro e; rw [e] at hlt; simp at hlt
        have hney : ys ≠ [] := by intro e; have := HL.out; rw [e] at this; simp only [List.length_nil] at this; omega
        obtain ⟨g, off, rfl, hc⟩ := ha hne
        obtain ⟨g', off', rfl, hc'⟩ := hb hney
        have h1 := hc k hlt
        have h2 := hc' k hlt
        have h1w := (hbel.cell (p := ⟨g, off + k, none⟩) (World.block_lt_of_cell? w _ h1)).trans h1
        have h2w := (hbel.cell (p := ⟨g', off' + k, none⟩) (World.block_lt_of_cell? w _ h2)).trans h2
        have hi0 : (0 : Int) ≤ (k : Int) := by omega
        have hi1 : (k : Int) < (xs.length : Int) := by omega
        by_cases e : xs.getD k 0 = ys.getD k 0
        · have hpre2 : Hid (∀ j, j < k + 1 → xs.getD j 0 = ys.getD j 0) := by
            intro j hj
            by_cases ej : j = k
            · rw [ej]; exact e
            · exact hpre.out j (by omega)
          rw [← e] at h2w
          generalize xs.getD k 0 = x at h1w h2w
          clear h1 h2 hc hc' ha hb e hpre hne hney
          go_wp2_with fail
          go_quiet (fail)
          go_wp2_with fail
          go_roundw
          case rel => exact ⟨k + 1, by omega, by go_num, hpre2, below_drewN hbel _⟩
          case measure => simp [intOf]; omega
        · have hb1 : (xs.getD k 0 != ys.getD k 0) = true := by simpa using e
          generalize xs.getD k 0 = x at h1w hb1
          generalize ys.getD k 0 = y at h2w hb1
          clear h1 h2 hc hc' ha hb e hpre hne hney
          go_wp2_with fail
          go_quiet (fail)
          go_wp2_with fail
          go_ret
          exact ⟨rfl, below_drewN hbel _⟩
      · exfalso
        have : k = xs.length := by omega
        subst this
        exact HN.out (getD_ext HL.out hpre.out)
  · have hd : ((xs.length : Int) != (ys.length : Int)) = true := by rw [bne_iff_ne]; omega
    clear hl hxy ha hb
    go_enter Try.func35, Try.ntmps35
    go_wp2_with fail
    go_ret
    exact ⟨rfl, Below.refl _ _⟩

/-- The numbers that markIntS writes. -/
def marks (k : Int) (n : Nat) : List Int := (List.range n).map (fun j : Nat => k + (j : Int))
theorem marks_length (k : Int) (n : Nat) : (marks k n).length = n := by simp [marks]
theorem marks_getD (k : Int) (n j : Nat) (h : j < n) : (marks k n).getD j 0 = k + j := by simp [marks, List.getD, h]

/-- The block that a slice of numbers lies in, if it has any number. -/
def blockOf (v : Value) (xs : List Int) : Option Nat := if xs = [] then none else v.ownBlock

theorem Rd.block_lt {w : World} {v : Value} {xs : List Int} (h : Rd w v xs) : ∀ b, blockOf v xs = some b → b < w.heap.size := by
  intro b hb
  unfold blockOf at hb
  split at hb
  · cases hb
  · rename_i hn
    obtain ⟨a, cap, rfl, hm, h⟩ := h
    obtain ⟨g, off, rfl, h1⟩ := h hn
    simp [Value.ownBlock] at hb
    subst hb
    have : 0 < xs.length := List.length_pos_iff.2 hn
    exact World.block_lt_of_cell? w _ (h1 0 this)

theorem Ow.block_ge {w : World} {base : Nat} {v : Value} {xs : List Int} (h : Ow w base v xs) : ∀ b, blockOf v xs = some b → base ≤ b := by
  intro b hb
  unfold blockOf at hb
  split at hb
  · cases hb
  · rename_i hn
    obtain ⟨a, cap, rfl, hm, h⟩ := h
    obtain ⟨g, off, rfl, h2, h1⟩ := h hn
    simp [Value.ownBlock] at hb
    subst hb
    exact h2

theorem apart_blocks {p q : Option Nat} {B : Nat} (h1 : ∀ b, p = some b → b < B) (h2 : ∀ b, q = some b → B ≤ b) : p = none ∨ p ≠ q := by
  cases p with
  | none => exact .inl rfl
  | some b => right; intro e; have := h1 b rfl; have := h2 b e.symm; omega
theorem apart_blocks' {p q : Option Nat} {B : Nat} (h1 : ∀ b, p = some b → b < B) (h2 : ∀ b, q = some b → B ≤ b) : q = none ∨ q ≠ p := by
  cases q with
  | none => exact .inl rfl
  | some b => right; intro e; have := h2 b rfl; have := h1 b e.symm; omega

theorem Rd.grown {w w' : World} {v : Value} {xs : List Int} {row : Option Nat} (h : Rd w v xs) (g : w.grownBy w' row) (hne : blockOf v xs = none ∨ blockOf v xs ≠ row) : Rd w' v xs := by
  obtain ⟨a, cap, rfl, hm, h⟩ := h
  refine ⟨a, cap, rfl, hm, fun hn => ?_⟩
  obtain ⟨b, off, rfl, h1⟩ := h hn
  refine ⟨b, off, rfl, fun j hj => ?_⟩
  have hb : blockOf (.slice (some ⟨b, off, none⟩) xs.length cap) xs = some b := by simp [blockOf, hn, Value.ownBlock]
  rw [hb] at hne
  have hne' : some b ≠ row := by rcases hne with h | h; · cases h
                                 · exact h
  exact g.cell (a := ⟨b, off + j, none⟩) (h1 j hj) hne'

theorem Ow.grown {w w' : World} {base : Nat} {v : Value} {xs : List Int} {row : Option Nat} (h : Ow w base v xs) (g : w.grownBy w' row) (hne : blockOf v xs = none ∨ blockOf v xs ≠ row) : Ow w' base v xs := by
  obtain ⟨a, cap, rfl, hm, h⟩ := h
  refine ⟨a, cap, rfl, hm, fun hn => ?_⟩
  obtain ⟨b, off, rfl, h2, h1⟩ := h hn
  refine ⟨b, off, rfl, h2, fun j hj => ?_⟩
  have hb : blockOf (.slice (some ⟨b, off, none⟩) xs.length cap) xs = some b := by simp [blockOf, hn, Value.ownBlock]
  rw [hb] at hne
  have hne' : some b ≠ row := by rcases hne with h | h; · cases h
                                 · exact h
  have hbk := g.block b (World.block_lt_of_cell? w _ (h1 j hj).1) hne'
  exact ⟨g.cell (a := ⟨b, off + j, none⟩) (h1 j hj).1 hne', (World.frozen?_of_block (a := ⟨b, off + j, none⟩) hbk).trans (h1 j hj).2⟩

/-- A store into block g of a world that has grown by g. -/
theorem grownBy_set {w w1 : World} {g : Nat} (h : w.grownBy w1 (some g)) (o : Nat) (v : Value) : w.grownBy (w1.setCell ⟨g, o, none⟩ v) (some g) :=
  ⟨h.os, h.tape, h.output, by simpa [World.setCell] using h.size, fun k hk hne => by
    rw [Below.heap_setCell _ _ _ _ (by intro e; exact hne (by rw [e])), h.block k hk hne]⟩
theorem grownBy_any {w w1 : World} (row : Option Nat) (h : Below w.heap.size w w1) : w.grownBy w1 row :=
  ⟨h.os, h.tape, h.output, h.size, fun k hk _ => h.block k hk⟩

set_option maxHeartbeats 400000 in
theorem heldIntS_yes (v : Value) (k : Int) (n : Nat) (w : World) (h : Rd w v (marks k n)) (hk : 0 ≤ k) (hk2 : k + n ≤ 9223372036854775807) :
    Calls Try.prog 47 #[v, .int .i64 k] w fun e w' => e = .returned (.int .i64 (k + n)) ∧ Below w.heap.size w w' := by
  obtain ⟨a, ca, rfl, hm, ha⟩ := h
  rw [marks_length] at hm ha ⊢
  have hm0 : n ≠ 0 → marks k n ≠ [] := fun h0 e => h0 (by have := marks_length k n; rw [e] at this; simpa using this.symm)
  go_enter Try.func47, Try.ntmps47
  go_wp2_with fail
  go_loopw [1, 5] (fun q v wr => ∃ i : Nat, i ≤ n ∧ v = .int .i64 i ∧ q = .int .i64 (k + i) ∧ Below w.heap.size w wr) (fun _ v _ => n - (intOf v).toNat)
  case atStart => exact ⟨0, by omega, rfl, by simp, Below.refl _ _⟩
  case round =>
    obtain ⟨i, hi, rfl, rfl, hbel⟩ := hrel
    by_cases hlt : i < n
    · obtain ⟨g, off, rfl, hc⟩ := ha (hm0 (by omega))
      have h1 := hc i hlt
      rw [marks_getD k n i hlt] at h1
      have h1w := (hbel.cell (p := ⟨g, off + i, none⟩) (World.block_lt_of_cell? w _ h1)).trans h1
      clear h1 hc ha hm0 hm
      have hi0 : (0 : Int) ≤ (i : Int) := by omega
      have hi1 : (i : Int) < (n : Int) := by omega
      go_wp2_with fail
      go_roundw
      case rel => exact ⟨i + 1, by omega, by go_num, by go_num, hbel⟩
      case measure => simp [intOf]; omega
    · have hin : i = n := by omega
      have HI := Lib.hid hin
      clear ha hm0 hm hin
      go_wp2_with fail
      go_ret
      exact ⟨ret_int (by rw [HI.out]), hbel⟩
set_option maxHeartbeats 400000 in
theorem markIntS_any (v : Value) (k : Int) (xs : List Int) (base : Nat) (w : World) (h : Ow w base v xs) (hk : 0 ≤ k) (hk2 : k + xs.length ≤ 9223372036854775807) :
    Calls Try.prog 46 #[v, .int .i64 k] w fun e w' => e = .returned (.int .i64 (k + xs.length)) ∧ Ow w' base v (marks k xs.length) ∧ w.grownBy w' (blockOf v xs) := by
  obtain ⟨a, ca, rfl, hm, ha⟩ := h
  by_cases hne : xs = []
  · subst hne
    go_enter Try.func46, Try.ntmps46
    go_wp2_with fail
    refine wp_loop_rounds 1 ?_
    rw [rounds_succ]
    go_wp2_with fail
    go_ret
    exact ⟨ret_int (by simp), (Ow.nil _ _ _ _ : Ow _ _ _ (marks k 0)), World.grownBy.refl _ _⟩
  · obtain ⟨g, off, rfl, hb, hc⟩ := ha hne
    clear ha
    have hblk : blockOf (.slice (some ⟨g, off, none⟩) xs.length ca) xs = some g := by simp [blockOf, hne, Value.ownBlock]
    rw [hblk]
    generalize hn : xs.length = n at *
    have HM := Lib.hid hm
    clear hblk hm hne
    have HC := Lib.hid hc
    clear hc
    go_enter Try.func46, Try.ntmps46
    go_wp2_with fail
    go_loopw [1, 5] (fun q v wr => ∃ i : Nat, i ≤ n ∧ v = .int .i64 i ∧ q = .int .i64 (k + i) ∧ w.grownBy wr (some g) ∧
      Hid (∀ j, j < n → wr.cell? ⟨g, off + j, none⟩ = some (.int .i64 (if j < i then k + j else xs.getD j 0)) ∧ wr.frozen? ⟨g, off + j, none⟩ = false)) (fun _ v _ => n - (intOf v).toNat)
    case atStart => exact ⟨0, by omega, rfl, by simp, World.grownBy.refl _ _, fun j hj => by simpa using HC.out j hj⟩
    case round =>
      obtain ⟨i, hi, rfl, rfl, hg, hcs⟩ := hrel
      by_cases hlt : i < n
      · have h1 := (hcs.out i hlt).1
        have h2 := (hcs.out i hlt).2
        generalize (if i < i then k + (i : Int) else xs.getD i 0) = x at h1
        go_wp2_with fail
        go_roundw
        case rel =>
          refine ⟨i + 1, by omega, by go_num, by go_num, grownBy_set hg _ _, fun j hj => ?_⟩
          have hj' := hcs.out j hj
          refine ⟨?_, by rw [World.frozen?_setCell]; exact hj'.2⟩
          by_cases ej : j = i
          · subst ej
            rw [World.cell?_setCell_same _ _ _ h1, if_pos (by omega)]
          · rw [World.cell?_setCell_other _ _ _ _ (fun h => ej (by injection h with _ h2 _; omega)), hj'.1]
            by_cases l : j < i
            · rw [if_pos l, if_pos (by omega)]
            · rw [if_neg l, if_neg (by omega)]
        case measure => simp [intOf]; omega
      · have hin : i = n := by omega
        have HI := Lib.hid hin
        clear hin
        go_wp2_with fail
        go_ret
        refine ⟨ret_int (by rw [HI.out]), ⟨_, ca, by rw [marks_length], by rw [marks_length]; exact HM.out, fun _ => ⟨g, off, rfl, hb, fun j hj => ?_⟩⟩, hg⟩
        rw [marks_length] at hj
        rw [marks_getD _ _ _ hj]
        have := hcs.out j hj
        rw [if_pos (by rw [HI.out]; exact hj)] at this
        exact this
theorem YtkkjgcpkimjfkaainfoI : (Try.prog.info? 3).map (fun i => (i.zero, i.size, i.bytes)) = some (some (.int .i64 0), 1, 8) := by kernel_rfl

set_option maxHeartbeats 400000 in
theorem toIntS_any (v : Value) (xs : List Int) (w : World) (h : Rd w v xs) (hl : xs.length ≤ 1048576) :
    Calls Try.prog 14 #[v] w fun e w' => ∃ u, e = .returned u ∧ Ow w' w.heap.size u xs ∧ Below w.heap.size w w' := by
  obtain ⟨i0, hi, hz0, hz1, hz2⟩ := info_parts YtkkjgcpkimjfkaainfoI
  obtain ⟨a, ca, rfl, hm, ha⟩ := h
  generalize hn : xs.length = n at *
  have HN := Lib.hid hn
  clear hn hm
  obtain ⟨B, hB⟩ : ∃ B, B = w.heap.size := ⟨_, rfl⟩
  have HB := Lib.hid hB
  go_enter Try.func14, Try.ntmps14
  go_wp2_with (first | (at_make; refine wpList_make_full _ rfl _ _ 22 rfl w.heap.size 3 i0 (.int .i64 0) 1 Try.underlying22 hi hz0 hz1 .i64 .i64 _ _ n rfl rfl (by omega) (by omega) (by rw [hz2]; omega) (by unfold maxLen; omega) (Nat.le_refl _) ?_; intro w1 hown hgrow))
  have hrow := RowAt.made hown
  have hbel := grown_below hgrow
  clear hown hgrow hi hz0 hz1 hz2
  rw [← hB] at hrow hbel ⊢
  have HC : Hid (xs ≠ [] → ∃ g off, a = some ⟨g, off, none⟩ ∧ ∀ j, j < n → w.cell? ⟨g, off + j, none⟩ = some (.int .i64 (xs.getD j 0))) := ha
  clear ha
  clear hB
  go_loopw [4] (fun v wr => ∃ k : Nat, k ≤ n ∧ v = .int .i64 k ∧ RowAt wr B n (fun j => if j < k then xs.getD j 0 else 0) ∧ Below B w wr) (fun v _ => n - (intOf v).toNat)
  case atStart => exact ⟨0, by omega, rfl, by simpa using hrow, hbel⟩
  case round =>
    clear hrow hbel
    obtain ⟨k, hk, rfl, hr, hb⟩ := hrel
    by_cases hlt : k < n
    · have hne : xs ≠ [] := by intro e; have := HN.out; rw [e] at this; simp at this; omega
      obtain ⟨g, off, rfl, hc⟩ := HC.out hne
      have h1 := hc k hlt
      have h1w := (hb.cell (p := ⟨g, off + k, none⟩) (by rw [HB.out]; exact World.block_lt_of_cell? w _ h1)).trans h1
      have hf := hr.free k hlt
      have hc0 := hr.cell k hlt
      generalize hx : xs.getD k 0 = x at h1w
      have HX := Lib.hid hx
      clear h1 hc HC hne hx
      have hi0 : (0 : Int) ≤ (k : Int) := by omega
      have hi1 : (k : Int) < (n : Int) := by omega
      go_wp2_with fail
      go_roundw
      case rel =>
        refine ⟨k + 1, by omega, by go_num, (hr.set k x).congr ?_, hb.setCell (Nat.le_refl _) _⟩
        intro j hj
        by_cases e : j = k
        · subst e; rw [if_pos rfl, if_pos (by omega)]; exact HX.out.symm
        · rw [if_neg e]
          by_cases l : j < k
          · rw [if_pos l, if_pos (by omega)]
          · rw [if_neg l, if_neg (by omega)]
      case measure => simp [intOf]; omega
    · have hin : k = n := by omega
      have HI := Lib.hid hin
      clear hin HC
      go_wp2_with fail
      go_ret
      refine ⟨_, rfl, Ow.of_at (hr.congr ?_) HN.out (by unfold maxLen; omega) (by rw [HB.out]; exact Nat.le_refl _), by rw [← HB.out]; exact hb⟩
      intro j hj
      rw [if_pos (by rw [HI.out]; exact hj)]
end Go.Proofs.Ytkkjgcpkimjfkaa
