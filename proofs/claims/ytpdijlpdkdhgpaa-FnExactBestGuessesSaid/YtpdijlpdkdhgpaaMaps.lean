/- A map as a function of its keys: what a lookup reads, what a store leaves. No program is named here. -/
import Derived.Maps.Own
import Derived.Maps.OwnSet
import Derived.Lib.Hide
namespace Go.Proofs.Ytpdijlpdkdhgpaa
open Go Go.Maps

/-- an element is told by itself -/
def selfR (v : Value) : Option (DataW Value × List MemPlace) := some (.held v, [])
def tok : Option Value → DataW Value
  | none => .nil
  | some v => .held v

/-- Block B is a map of m entries; at the key 'key i' it has 'f i'. -/
def MapAt {ι : Type} (P : Program) (K : TypeId) (key : ι → Value) (w : World) (B : Nat) (m : Nat) (f : ι → Option Value) : Prop :=
  ∃ D : DataW Value, w.ownsMap P K selfR B m D ∧ Tidy D ∧ Maps.size D = m ∧ ∀ i l, keyOf P K (key i) = some l → D.atKey l .nil = tok (f i) ∧ Maps.has D l = (f i).isSome

section
variable {ι : Type} {P : Program} {K : TypeId} {key : ι → Value} {w w' : World} {B m : Nat} {f : ι → Option Value}

theorem MapAt.kept (h : MapAt P K key w B m f) {row : Option Nat} (hg : w.grownBy w' row) (hne : some B ≠ row) : MapAt P K key w' B m f := by
  obtain ⟨D, h1, h2⟩ := h
  exact ⟨D, h1.kept hg hne, h2⟩
theorem MapAt.lt (h : MapAt P K key w B m f) : B < w.heap.size := by
  obtain ⟨D, h1, _⟩ := h
  exact h1.lt
theorem owns_tight {D : DataW Value} {n : Nat} (h : w.ownsMap P K selfR B n D) : w.ownsMap P K selfR B (Maps.size D) D := by
  obtain ⟨es, clock, hb, F, _, rfl⟩ := h
  exact ⟨es, clock, hb, F, by simp [Maps.size, length_sorted], rfl⟩
theorem MapAt.congr (h : MapAt P K key w B m f) {g : ι → Option Value} (e : ∀ i, f i = g i) : MapAt P K key w B m g := by
  obtain rfl : f = g := funext e
  exact h
/-- no cell lies in a map's block -/
theorem MapAt.no_cell (h : MapAt P K key w B m f) (o : Nat) : w.cell? ⟨B, o, none⟩ = none := by
  obtain ⟨D, ⟨es, clock, hb, _⟩, _⟩ := h
  simp [World.cell?, hb]

theorem MapAt.made (P : Program) (K : TypeId) (key : ι → Value) (w : World) : MapAt P K key (w.alloc (.map #[] 0)) w.heap.size 0 (fun _ => none) :=
  ⟨_, World.ownsMap_made w P K selfR, tidy_empty, rfl, fun _ _ _ => ⟨rfl, rfl⟩⟩

theorem tok_held {o : Option Value} {v : Value} (h : tok o = .held v) : o = some v := by
  cases o with
  | none => cases h
  | some x => injection h with h; rw [h]

/-- 'm[k]' -/
theorem MapAt.look (h : MapAt P K key w B m f) (KK : Keyed P K) {t e : TypeId} (ht : P.underlying t = some (.map K e)) {z : Value} (hz : (zeroValue e).run P w = .ok z w) (i : ι) {l : Lit} (hk : keyOf P K (key i) = some l) :
    (Instr.lookup t (.map (some B)) (key i) false).run P w = .ok ((f i).getD z) w := by
  obtain ⟨D, h1, h2, _, h3⟩ := h
  obtain ⟨ha, hh⟩ := h3 i l hk
  obtain ⟨v, ps, hrun, hv⟩ := h1.lookup KK ht hz (zd := .held z) (zp := []) rfl hk
  rw [hrun]
  have e : DataW.held v = D.atKey l (.held z) := by unfold selfR at hv; injection hv with hv; injection hv
  cases hf : f i with
  | none =>
    rw [hf] at hh
    rw [atKey_of_not_has hh] at e
    injection e with e
    rw [e]; rfl
  | some x =>
    rw [hf] at ha hh
    have : D.atKey l (.held z) = D.atKey l .nil := by
      obtain ⟨es, rfl, _⟩ := h2
      rw [Maps.has_eq] at hh
      unfold DataW.atKey
      cases hfi : es.find? (fun p => p.1.sameKey l) with
      | none =>
        rw [List.find?_eq_none] at hfi
        obtain ⟨p, hp, hpk⟩ := List.any_eq_true.1 hh
        exact absurd hpk (hfi p hp)
      | some p => simp [hfi]
    rw [this, ha] at e
    injection e with e
    rw [e]; rfl

/-- 'v, ok := m[k]' -/
theorem MapAt.look_ok (h : MapAt P K key w B m f) (KK : Keyed P K) {t e : TypeId} (ht : P.underlying t = some (.map K e)) {z : Value} (hz : (zeroValue e).run P w = .ok z w) (i : ι) {l : Lit} (hk : keyOf P K (key i) = some l) :
    (Instr.lookup t (.map (some B)) (key i) true).run P w = .ok (.tuple #[(f i).getD z, .bool (f i).isSome]) w := by
  obtain ⟨D, h1, h2, _, h3⟩ := h
  obtain ⟨ha, hh⟩ := h3 i l hk
  obtain ⟨v, ps, hrun, hv⟩ := h1.look_ok KK ht hz (zd := .held z) (zp := []) rfl hk
  rw [hrun, hh]
  have e : DataW.held v = D.atKey l (.held z) := by unfold selfR at hv; injection hv with hv; injection hv
  cases hf : f i with
  | none =>
    rw [hf] at hh
    rw [atKey_of_not_has hh] at e
    injection e with e
    rw [e]; rfl
  | some x =>
    rw [hf] at ha hh
    have : D.atKey l (.held z) = D.atKey l .nil := by
      obtain ⟨es, rfl, _⟩ := h2
      rw [Maps.has_eq] at hh
      unfold DataW.atKey
      cases hfi : es.find? (fun p => p.1.sameKey l) with
      | none =>
        rw [List.find?_eq_none] at hfi
        obtain ⟨p, hp, hpk⟩ := List.any_eq_true.1 hh
        exact absurd hpk (hfi p hp)
      | some p => simp [hfi]
    rw [this, ha] at e
    injection e with e
    rw [e]; rfl

/-- 'm[k] = v' -/
theorem MapAt.store [DecidableEq ι] (h : MapAt P K key w B m f) (KK : Keyed P K) {t e : TypeId} (ht : P.underlying t = some (.map K e)) (hn : m < maxLen) (hinj : ∀ i j, key i = key j → i = j) (i : ι) (v : Value) {l : Lit} (hk : keyOf P K (key i) = some l) :
    ∃ w', (Instr.mapUpdate t (.map (some B)) (key i) v).run P w = .ok () w' ∧ MapAt P K key w' B (if (f i).isSome = true then m else m + 1) (fun j => if j = i then some v else f j) ∧ w.grownBy w' (some B) := by
  obtain ⟨D, h1, h2, hm, h3⟩ := h
  obtain ⟨w', hrun, hown, hg⟩ := h1.update KK ht hn hk (d := .held v) (ps := []) rfl
  have hkl := KK.key hk
  obtain ⟨ha, hh⟩ := h3 i l hk
  have hsz : Maps.size (D.put l (.held v)) = if (f i).isSome = true then m else m + 1 := by rw [Maps.size_put h2, hh, hm]
  refine ⟨w', hrun, ⟨_, by rw [← hsz]; exact owns_tight hown, h2.put hkl _, hsz, fun j l' hk' => ?_⟩, hg⟩
  · by_cases e : j = i
    · subst e
      obtain rfl : l = l' := by rw [hk] at hk'; injection hk'
      dsimp only
      rw [if_pos rfl]
      exact ⟨Maps.atKey_put_same h2.isMap hkl _ _, Maps.has_put_same h2.isMap hkl _⟩
    · dsimp only
      rw [if_neg e]
      have hne : l' ≠ l := by
        rintro rfl
        exact e (hinj j i (KK.inj hk' hk))
      obtain ⟨ha', hh'⟩ := h3 j l' hk'
      exact ⟨(Maps.atKey_put_other hne _ _).trans ha', (Maps.has_put_other hne _).trans hh'⟩

/-- 'len(m)' -/
theorem MapAt.len (h : MapAt P K key w B m f) {t e : TypeId} (ht : P.underlying t = some (.map K e)) (ty : TypeId) : (Builtin.len_ #[t] ty #[.map (some B)]).run P w = .ok (.int .i64 m) w := by
  obtain ⟨D, h1, _, hm, _⟩ := h
  rw [h1.len ht ty, hm]

end

/-! At the operation, for the walk. -/
section
variable {ι : Type} {P : Program} (w : World) {ops : Array Oper} {rest : List Oper} {o : Oper} {a : Act} {Q : Exit → Act → World → Prop}

theorem wpList_look (hg : o.guard = none) (mm x : Operand) (t : TypeId) (hop : o.op = Op.lookup t mm x false)
    {K e : TypeId} (KK : Keyed P K) (ht : P.underlying t = some (.map K e)) {key : ι → Value} {z : Value} (hz : (zeroValue e).run P w = .ok z w) {B m : Nat} {f : ι → Option Value}
    (hm : a.eval mm = .map (some B)) (h : MapAt P K key w B m f) (i : ι) {l : Lit} (hx : a.eval x = key i) (hk : keyOf P K (key i) = some l) {r : Value} (hr : (f i).getD z = r)
    (hK : wpList P ops Q rest (a.put o.dst r) w) : wpList P ops Q (o :: rest) a w := by
  refine wpList_plain hg fun K' hK' => ?_
  have hrun := h.look KK ht hz i hk
  rw [hr] at hrun
  unfold Oper.wp
  simp [execOp, hop, hm, hx, hrun, Result.andThen]
  exact hK' _ _ hK

theorem wpList_look_ok (hg : o.guard = none) (mm x : Operand) (t : TypeId) (hop : o.op = Op.lookup t mm x true)
    {K e : TypeId} (KK : Keyed P K) (ht : P.underlying t = some (.map K e)) {key : ι → Value} {z : Value} (hz : (zeroValue e).run P w = .ok z w) {B m : Nat} {f : ι → Option Value}
    (hm : a.eval mm = .map (some B)) (h : MapAt P K key w B m f) (i : ι) {l : Lit} (hx : a.eval x = key i) (hk : keyOf P K (key i) = some l) {r : Value} {b : Bool} (hr : (f i).getD z = r) (hb : (f i).isSome = b)
    (hK : wpList P ops Q rest (a.put o.dst (.tuple #[r, .bool b])) w) : wpList P ops Q (o :: rest) a w := by
  refine wpList_plain hg fun K' hK' => ?_
  have hrun := h.look_ok KK ht hz i hk
  rw [hr, hb] at hrun
  unfold Oper.wp
  simp [execOp, hop, hm, hx, hrun, Result.andThen]
  exact hK' _ _ hK

theorem wpList_upd [DecidableEq ι] (hg : o.guard = none) (mm x v : Operand) (t : TypeId) (hop : o.op = Op.mapUpdate t mm x v)
    {K e : TypeId} (KK : Keyed P K) (ht : P.underlying t = some (.map K e)) {key : ι → Value} {B m : Nat} {f : ι → Option Value}
    (hm : a.eval mm = .map (some B)) (h : MapAt P K key w B m f) (hn : m < maxLen) (hinj : ∀ i j, key i = key j → i = j) (i : ι) (val : Value) {l : Lit} (hx : a.eval x = key i) (hv : a.eval v = val) (hk : keyOf P K (key i) = some l)
    (hK : ∀ w', MapAt P K key w' B (if (f i).isSome = true then m else m + 1) (fun j => if j = i then some val else f j) → w.grownBy w' (some B) → wpList P ops Q rest (a.put o.dst undef) w') : wpList P ops Q (o :: rest) a w := by
  refine wpList_plain hg fun K' hK' => ?_
  obtain ⟨w', hrun, r1, r2⟩ := h.store KK ht hn hinj i val hk
  unfold Oper.wp
  simp [execOp, hop, hm, hx, hv, hrun, Result.andThen]
  exact hK' _ _ (hK w' r1 r2)

theorem wpList_mlen (hg : o.guard = none) (mm : Operand) (t : TypeId) (hop : o.op = Op.call { callee := Callee.builtin Builtin.len, args := #[mm], argTypes := #[t] })
    {K e : TypeId} (ht : P.underlying t = some (.map K e)) {key : ι → Value} {B m : Nat} {f : ι → Option Value} (hm : a.eval mm = .map (some B)) (h : MapAt P K key w B m f)
    (hK : wpList P ops Q rest (a.put o.dst (.int .i64 m)) w) : wpList P ops Q (o :: rest) a w := by
  refine wpList_plain hg fun K' hK' => ?_
  unfold Oper.wp
  simp [execOp, hop, resolve, invoke, builtin, hm, h.len ht o.type, Result.andThen]
  exact hK' _ _ hK
end
end Go.Proofs.Ytpdijlpdkdhgpaa
