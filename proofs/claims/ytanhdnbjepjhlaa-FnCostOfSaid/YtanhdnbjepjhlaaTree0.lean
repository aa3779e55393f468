/- Trees of things, told by texts: the plain laws. No program is named here. -/
import Init
namespace Go.Proofs.Ytanhdnbjepjhlaa

inductive T where
  | leaf (c : UInt8)
  | node (a b : T)

def T.text : T → List UInt8
  | .leaf c => [c]
  | .node a b => 40 :: (a.text ++ (b.text ++ [41]))
def T.leaves : T → List UInt8
  | .leaf c => [c]
  | .node a b => a.leaves ++ b.leaves
def T.paths : T → List Int → List (UInt8 × List Int)
  | .leaf c, p => [(c, p)]
  | .node a b, p => a.paths (p ++ [1]) ++ b.paths (p ++ [0])

/-- a small letter -/
def low (c : UInt8) : Bool := decide (97 ≤ c.toNat ∧ c.toNat ≤ 122)
def T.okL (t : T) : Prop := ∀ c ∈ t.leaves, low c = true

theorem okL_node {a b : T} : (T.node a b).okL ↔ a.okL ∧ b.okL := by
  constructor
  · intro h; exact ⟨fun c hc => h c (List.mem_append.2 (.inl hc)), fun c hc => h c (List.mem_append.2 (.inr hc))⟩
  · rintro ⟨h1, h2⟩ c hc
    rcases List.mem_append.1 hc with h | h
    · exact h1 c h
    · exact h2 c h

def parse : Nat → List UInt8 → Option (T × List UInt8)
  | 0, _ => none
  | _ + 1, [] => none
  | f + 1, c :: r =>
    if low c = true then some (.leaf c, r)
    else if c = 40 then
      match parse f r with
      | none => none
      | some (a, r1) =>
        match parse f r1 with
        | none => none
        | some (_, []) => none
        | some (b, x :: r3) => if x = 41 then some (.node a b, r3) else none
    else none

theorem parse_text : ∀ (f : Nat) (l : List UInt8) (t : T) (r : List UInt8), parse f l = some (t, r) → l = t.text ++ r ∧ t.okL := by
  intro f
  induction f with
  | zero => intro l t r h; simp [parse] at h
  | succ f ih =>
    intro l t r h
    cases l with
    | nil => simp [parse] at h
    | cons c l =>
      simp only [parse] at h
      split at h
      · rename_i hc
        simp only [Option.some.injEq, Prod.mk.injEq] at h
        obtain ⟨rfl, rfl⟩ := h
        exact ⟨rfl, fun d hd => by simp [T.leaves] at hd; rw [hd]; exact hc⟩
      · split at h
        · rename_i _ hc
          split at h
          · cases h
          · rename_i a r1 h1
            split at h
            · cases h
            · cases h
            · rename_i b x r3 h2
              split at h
              · rename_i hx
                simp only [Option.some.injEq, Prod.mk.injEq] at h
                obtain ⟨rfl, rfl⟩ := h
                obtain ⟨e1, o1⟩ := ih _ _ _ h1
                obtain ⟨e2, o2⟩ := ih _ _ _ h2
                refine ⟨?_, okL_node.2 ⟨o1, o2⟩⟩
                rw [e1, e2, hc, hx]
                simp [T.text]
              · cases h
        · cases h

theorem text_pos (t : T) : 0 < t.text.length := by cases t <;> simp [T.text]

theorem parse_of_text : ∀ (t : T) (f : Nat) (r : List UInt8), t.okL → t.text.length ≤ f → parse f (t.text ++ r) = some (t, r) := by
  intro t
  induction t with
  | leaf c =>
    intro f r ho hf
    cases f with
    | zero => simp [T.text] at hf
    | succ f =>
      have : low c = true := ho c (by simp [T.leaves])
      simp [T.text, parse, this]
  | node a b iha ihb =>
    intro f r ho hf
    obtain ⟨oa, ob⟩ := okL_node.1 ho
    cases f with
    | zero => simp [T.text] at hf
    | succ f =>
      simp [T.text] at hf
      have h1 := iha f (b.text ++ (41 :: r)) oa (by omega)
      have h2 := ihb f (41 :: r) ob (by omega)
      have e : (T.node a b).text ++ r = 40 :: (a.text ++ (b.text ++ (41 :: r))) := by simp [T.text]
      have hl : ¬ low 40 = true := by decide
      rw [e, parse, if_neg hl, if_pos rfl]
      simp only [h1, h2, if_pos]

theorem parse_indep (f f' : Nat) (l : List UInt8) (h : l.length ≤ f) (h' : l.length ≤ f') : parse f l = parse f' l := by
  have key : ∀ g g' : Nat, l.length ≤ g → l.length ≤ g' → ∀ x, parse g l = some x → parse g' l = some x := by
    intro g g' hg hg' x hx
    obtain ⟨e, o⟩ := parse_text g l x.1 x.2 hx
    have hl : x.1.text.length ≤ l.length := by rw [e]; simp
    have := parse_of_text x.1 g' x.2 o (by omega)
    rw [e]
    exact this
  cases h1 : parse f l with
  | some x => exact (key f f' h h' x h1).symm
  | none =>
    cases h2 : parse f' l with
    | none => rfl
    | some y => rw [key f' f h' h y h2] at h1; cases h1

/-- the tree at the front of a text, and what is behind it -/
def P (l : List UInt8) : Option (T × List UInt8) := parse l.length l

theorem P_eq (f : Nat) (l : List UInt8) (h : l.length ≤ f) : parse f l = P l := parse_indep _ _ _ h (Nat.le_refl _)
theorem P_text {l : List UInt8} {t : T} {r : List UInt8} (h : P l = some (t, r)) : l = t.text ++ r ∧ t.okL := parse_text _ _ _ _ h
theorem P_of {t : T} (o : t.okL) (r : List UInt8) : P (t.text ++ r) = some (t, r) := parse_of_text t _ r o (by simp)
theorem P_nil : P [] = none := rfl
theorem P_low {c : UInt8} (h : low c = true) (r : List UInt8) : P (c :: r) = some (.leaf c, r) := by simp [P, parse, h]
theorem P_bad {c : UInt8} (h : low c = false) (h2 : c ≠ 40) (r : List UInt8) : P (c :: r) = none := by simp [P, parse, h, h2]
theorem P_open0 {r : List UInt8} (h : P r = none) : P (40 :: r) = none := by
  have hl : ¬ low 40 = true := by decide
  rw [P, List.length_cons, parse, if_neg hl, if_pos rfl, P_eq _ _ (Nat.le_refl _), h]
theorem P_open1 {r r1 : List UInt8} {a : T} (h : P r = some (a, r1)) (h1 : P r1 = none) : P (40 :: r) = none := by
  have hl : ¬ low 40 = true := by decide
  have hr : r1.length ≤ r.length := by rw [(P_text h).1]; simp
  rw [P, List.length_cons, parse, if_neg hl, if_pos rfl, P_eq _ _ (Nat.le_refl _), h]
  simp only [P_eq _ _ hr, h1]
theorem P_open2 {r r1 : List UInt8} {a b : T} (h : P r = some (a, r1)) (h1 : P r1 = some (b, [])) : P (40 :: r) = none := by
  have hl : ¬ low 40 = true := by decide
  have hr : r1.length ≤ r.length := by rw [(P_text h).1]; simp
  rw [P, List.length_cons, parse, if_neg hl, if_pos rfl, P_eq _ _ (Nat.le_refl _), h]
  simp only [P_eq _ _ hr, h1]
theorem P_open3 {r r1 r2 : List UInt8} {a b : T} {x : UInt8} (h : P r = some (a, r1)) (h1 : P r1 = some (b, x :: r2)) : P (40 :: r) = if x = 41 then some (.node a b, r2) else none := by
  have hl : ¬ low 40 = true := by decide
  have hr : r1.length ≤ r.length := by rw [(P_text h).1]; simp
  rw [P, List.length_cons, parse, if_neg hl, if_pos rfl, P_eq _ _ (Nat.le_refl _), h]
  simp only [P_eq _ _ hr, h1]

/-- where the tree that begins at a place ends -/
def endI (s : List UInt8) (at_ : Nat) : Int :=
  match P (s.drop at_) with
  | none => -1
  | some (t, _) => ((at_ + t.text.length : Nat) : Int)
theorem endI_none {s : List UInt8} {i : Nat} (h : P (s.drop i) = none) : endI s i = -1 := by unfold endI; rw [h]
theorem endI_some {s : List UInt8} {i : Nat} {t : T} {r : List UInt8} (h : P (s.drop i) = some (t, r)) : endI s i = ((i + t.text.length : Nat) : Int) ∧ s.drop (i + t.text.length) = r ∧ i + t.text.length + r.length = s.length := by
  have e := (P_text h).1
  refine ⟨by unfold endI; rw [h], ?_, ?_⟩
  · rw [← List.drop_drop, e]; simp
  · have h1 : (s.drop i).length = t.text.length + r.length := by rw [e]; simp
    have hp := text_pos t
    simp at h1
    omega

/-! What 'routes' finds. -/
abbrev M := UInt8 → Option (List Int)
def upd (D : M) (c : UInt8) (x : List Int) : M := fun d => if d = c then some x else D d

structure RR where
  rest : List UInt8
  ok : Bool
  D : M
  n : Nat

def cut (l : List UInt8) : List UInt8 × Bool :=
  match l with
  | [] => ([], false)
  | x :: r => if x = 41 then (r, true) else (x :: r, false)

def rt : Nat → List UInt8 → List Int → M → Nat → RR
  | 0, _, _, D, n => ⟨[], false, D, n⟩
  | _ + 1, [], _, D, n => ⟨[], false, D, n⟩
  | f + 1, c :: r, ans, D, n =>
    if c = 40 then
      if (rt f r (ans ++ [1]) D n).ok = true then
        if (rt f (rt f r (ans ++ [1]) D n).rest (ans ++ [0]) (rt f r (ans ++ [1]) D n).D (rt f r (ans ++ [1]) D n).n).ok = true then
          ⟨(cut (rt f (rt f r (ans ++ [1]) D n).rest (ans ++ [0]) (rt f r (ans ++ [1]) D n).D (rt f r (ans ++ [1]) D n).n).rest).1,
            (cut (rt f (rt f r (ans ++ [1]) D n).rest (ans ++ [0]) (rt f r (ans ++ [1]) D n).D (rt f r (ans ++ [1]) D n).n).rest).2,
            (rt f (rt f r (ans ++ [1]) D n).rest (ans ++ [0]) (rt f r (ans ++ [1]) D n).D (rt f r (ans ++ [1]) D n).n).D,
            (rt f (rt f r (ans ++ [1]) D n).rest (ans ++ [0]) (rt f r (ans ++ [1]) D n).D (rt f r (ans ++ [1]) D n).n).n⟩
        else ⟨[], false, (rt f (rt f r (ans ++ [1]) D n).rest (ans ++ [0]) (rt f r (ans ++ [1]) D n).D (rt f r (ans ++ [1]) D n).n).D,
            (rt f (rt f r (ans ++ [1]) D n).rest (ans ++ [0]) (rt f r (ans ++ [1]) D n).D (rt f r (ans ++ [1]) D n).n).n⟩
      else ⟨[], false, (rt f r (ans ++ [1]) D n).D, (rt f r (ans ++ [1]) D n).n⟩
    else ⟨r, low c && (D c).isNone, upd D c ans, if (D c).isNone = true then n + 1 else n⟩

theorem cut_len (l : List UInt8) : (cut l).1.length ≤ l.length := by
  cases l with
  | nil => simp [cut]
  | cons x r => unfold cut; simp only []; split <;> simp

theorem rt_len : ∀ (f : Nat) (l : List UInt8) (ans : List Int) (D : M) (n : Nat), (rt f l ans D n).rest.length ≤ l.length ∧ (rt f l ans D n).n + (rt f l ans D n).rest.length ≤ n + l.length := by
  intro f
  induction f with
  | zero => intro l ans D n; simp [rt]
  | succ f ih =>
    intro l ans D n
    cases l with
    | nil => simp [rt]
    | cons c r =>
      rw [rt]
      have h1 := ih r (ans ++ [1]) D n
      generalize rt f r (ans ++ [1]) D n = x at *
      have h2 := ih x.rest (ans ++ [0]) x.D x.n
      generalize rt f x.rest (ans ++ [0]) x.D x.n = y at *
      have h3 := cut_len y.rest
      simp only [List.length_cons]
      split
      · split
        · split
          · simp only []; omega
          · simp only [List.length_nil]; omega
        · simp only [List.length_nil]; omega
      · simp only []
        split <;> omega

theorem rt_open0 {f n : Nat} {r : List UInt8} {ans : List Int} {D : M} {x : RR} (hx : rt f r (ans ++ [1]) D n = x) (h : x.ok = false) : rt (f + 1) (40 :: r) ans D n = ⟨[], false, x.D, x.n⟩ := by
  rw [rt, if_pos rfl, hx, h]; rfl
theorem rt_open1 {f n : Nat} {r : List UInt8} {ans : List Int} {D : M} {x y : RR} (hx : rt f r (ans ++ [1]) D n = x) (h : x.ok = true) (hy : rt f x.rest (ans ++ [0]) x.D x.n = y) (h2 : y.ok = false) :
    rt (f + 1) (40 :: r) ans D n = ⟨[], false, y.D, y.n⟩ := by
  rw [rt, if_pos rfl, hx, if_pos h, hy, h2]; rfl
theorem rt_open2 {f n : Nat} {r : List UInt8} {ans : List Int} {D : M} {x y : RR} (hx : rt f r (ans ++ [1]) D n = x) (h : x.ok = true) (hy : rt f x.rest (ans ++ [0]) x.D x.n = y) (h2 : y.ok = true) :
    rt (f + 1) (40 :: r) ans D n = ⟨(cut y.rest).1, (cut y.rest).2, y.D, y.n⟩ := by
  rw [rt, if_pos rfl, hx, if_pos h, hy, if_pos h2]
theorem rt_leaf {f n : Nat} {c : UInt8} {r : List UInt8} {ans : List Int} {D : M} (h : c ≠ 40) : rt (f + 1) (c :: r) ans D n = ⟨r, low c && (D c).isNone, upd D c ans, if (D c).isNone = true then n + 1 else n⟩ := by
  rw [rt, if_neg h]

def updAll (D : M) (ps : List (UInt8 × List Int)) : M := ps.foldl (fun D p => upd D p.1 p.2) D
theorem updAll_append (D : M) (p q : List (UInt8 × List Int)) : updAll D (p ++ q) = updAll (updAll D p) q := by simp [updAll, List.foldl_append]
theorem updAll_none : ∀ (ps : List (UInt8 × List Int)) (D : M) (c : UInt8), updAll D ps c = none ↔ D c = none ∧ c ∉ ps.map (·.1)
  | [], D, c => by simp [updAll]
  | p :: r, D, c => by
    have := updAll_none r (upd D p.1 p.2) c
    rw [show updAll D (p :: r) = updAll (upd D p.1 p.2) r from rfl, this]
    simp only [upd, List.map_cons, List.mem_cons, not_or]
    by_cases h : c = p.1 <;> simp [h]
theorem updAll_other {ps : List (UInt8 × List Int)} {D : M} {c : UInt8} : c ∉ ps.map (·.1) → updAll D ps c = D c := by
  induction ps generalizing D with
  | nil => intro _; rfl
  | cons p r ih =>
    intro h
    simp only [List.map_cons, List.mem_cons, not_or] at h
    rw [show updAll D (p :: r) = updAll (upd D p.1 p.2) r from rfl, ih h.2]
    simp [upd, h.1]
theorem paths_fst : ∀ (t : T) (p : List Int), (t.paths p).map (·.1) = t.leaves
  | .leaf c, p => rfl
  | .node a b, p => by simp only [T.paths, T.leaves, List.map_append, paths_fst a, paths_fst b]

theorem P_inv {c : UInt8} {l r : List UInt8} {t : T} (h : P (c :: l) = some (t, r)) :
    (low c = true ∧ t = .leaf c ∧ r = l) ∨ (c = 40 ∧ ∃ a b r1, t = .node a b ∧ P l = some (a, r1) ∧ P r1 = some (b, 41 :: r)) := by
  by_cases hl : low c = true
  · rw [P_low hl] at h
    simp only [Option.some.injEq, Prod.mk.injEq] at h
    exact .inl ⟨hl, h.1.symm, h.2.symm⟩
  · by_cases hc : c = 40
    · subst hc
      cases h1 : P l with
      | none => rw [P_open0 h1] at h; cases h
      | some x =>
        obtain ⟨a, r1⟩ := x
        cases h2 : P r1 with
        | none => rw [P_open1 h1 h2] at h; cases h
        | some y =>
          obtain ⟨b, r2⟩ := y
          cases r2 with
          | nil => rw [P_open2 h1 h2] at h; cases h
          | cons x r3 =>
            rw [P_open3 h1 h2] at h
            split at h
            · rename_i hx
              simp only [Option.some.injEq, Prod.mk.injEq] at h
              obtain ⟨rfl, rfl⟩ := h
              subst hx
              exact .inr ⟨rfl, a, b, r1, rfl, rfl, h2⟩
            · cases h
    · rw [P_bad (by simpa using hl) hc] at h; cases h

def Fresh (t : T) (D : M) : Prop := t.leaves.Nodup ∧ ∀ c ∈ t.leaves, D c = none

theorem fresh_node {a b : T} {D : M} (p : List Int) : Fresh (.node a b) D ↔ Fresh a D ∧ Fresh b (updAll D (a.paths p)) := by
  unfold Fresh
  simp only [T.leaves, List.nodup_append, updAll_none, paths_fst]
  constructor
  · rintro ⟨⟨h1, h2, h3⟩, h4⟩
    exact ⟨⟨h1, fun c hc => h4 c (by simp [hc])⟩, h2, fun c hc => ⟨h4 c (by simp [hc]), fun hca => h3 c hca c hc rfl⟩⟩
  · rintro ⟨⟨h1, h2⟩, h3, h4⟩
    refine ⟨⟨h1, h3, fun x hx y hy e => ?_⟩, fun c hc => ?_⟩
    · subst e; exact (h4 x hy).2 hx
    · rcases List.mem_append.1 hc with h | h
      · exact h2 c h
      · exact (h4 c h).1

theorem rt_yes : ∀ (f : Nat) (l : List UInt8) (ans : List Int) (D : M) (n : Nat) (t : T) (r : List UInt8), l.length < f → P l = some (t, r) → Fresh t D →
    rt f l ans D n = ⟨r, true, updAll D (t.paths ans), n + t.leaves.length⟩ := by
  intro f
  induction f with
  | zero => intro l _ _ _ _ _ h; omega
  | succ f ih =>
    intro l ans D n t r hf hP hfr
    cases l with
    | nil => rw [P_nil] at hP; cases hP
    | cons c l =>
      simp only [List.length_cons] at hf
      rcases P_inv hP with ⟨hl, rfl, rfl⟩ | ⟨rfl, a, b, r1, rfl, h1, h2⟩
      · have hc : c ≠ 40 := by rintro rfl; exact absurd hl (by decide)
        have hd : D c = none := hfr.2 c (by simp [T.leaves])
        rw [rt_leaf hc, hl, hd]
        rfl
      · obtain ⟨fa, fb⟩ := (fresh_node (ans ++ [1])).1 hfr
        have hr1 : r1.length ≤ l.length := by rw [(P_text h1).1]; simp
        have e1 := ih l (ans ++ [1]) D n a r1 (by omega) h1 fa
        have e2 := ih r1 (ans ++ [0]) _ (n + a.leaves.length) b (41 :: r) (by omega) h2 fb
        rw [rt_open2 e1 rfl e2 rfl]
        simp [cut, T.paths, updAll_append, T.leaves, Nat.add_assoc]

theorem rt_ok : ∀ (f : Nat) (l : List UInt8) (ans : List Int) (D : M) (n : Nat), l.length < f → (rt f l ans D n).ok = true → ∃ t r, P l = some (t, r) ∧ Fresh t D := by
  intro f
  induction f with
  | zero => intro l _ _ _ h; omega
  | succ f ih =>
    intro l ans D n hf hok
    cases l with
    | nil => simp [rt] at hok
    | cons c l =>
      simp only [List.length_cons] at hf
      by_cases hc : c = 40
      · subst hc
        cases hx : (rt f l (ans ++ [1]) D n).ok with
        | false => rw [rt_open0 rfl hx] at hok; cases hok
        | true =>
          obtain ⟨a, r1, h1, fa⟩ := ih _ _ _ _ (by omega) hx
          have hr1 : r1.length ≤ l.length := by rw [(P_text h1).1]; simp
          have e1 := rt_yes f l (ans ++ [1]) D n a r1 (by omega) h1 fa
          cases hy : (rt f r1 (ans ++ [0]) (updAll D (a.paths (ans ++ [1]))) (n + a.leaves.length)).ok with
          | false => rw [rt_open1 e1 rfl rfl hy] at hok; cases hok
          | true =>
            obtain ⟨b, r2, h2, fb⟩ := ih _ _ _ _ (by omega) hy
            have e2 := rt_yes f r1 (ans ++ [0]) _ (n + a.leaves.length) b r2 (by omega) h2 fb
            rw [rt_open2 e1 rfl e2 rfl] at hok
            cases r2 with
            | nil => simp [cut] at hok
            | cons x r3 =>
              unfold cut at hok
              simp only [] at hok
              split at hok
              · rename_i hx
                exact ⟨.node a b, r3, by rw [P_open3 h1 h2, if_pos hx], (fresh_node (ans ++ [1])).2 ⟨fa, fb⟩⟩
              · cases hok
      · rw [rt_leaf hc] at hok
        simp only [Bool.and_eq_true, Option.isNone_iff_eq_none] at hok
        exact ⟨.leaf c, l, P_low hok.1 l, by unfold Fresh; simp [T.leaves, hok.2]⟩

/-! Which texts are trees of so many things. -/
def letter (i : Nat) : UInt8 := UInt8.ofNat (97 + i)
def theTree (l : List UInt8) : Option T := match P l with | some (t, []) => some t | _ => none
def Good (n : Nat) (t : T) : Prop := t.leaves.length = n ∧ t.leaves.Nodup ∧ ∀ i, i < n → letter i ∈ t.leaves
instance (n : Nat) (t : T) : Decidable (Good n t) := by unfold Good; infer_instance
/-- the tree of so many things that a text is -/
def TO (n : Int) (l : List UInt8) : Option T :=
  if 1 ≤ n ∧ n ≤ 9 then (match theTree l with | some t => if Good n.toNat t then some t else none | none => none) else none

theorem theTree_some {l : List UInt8} {t : T} : theTree l = some t ↔ P l = some (t, []) := by
  unfold theTree
  constructor
  · intro h
    split at h
    · rename_i h1; simp only [Option.some.injEq] at h; subst h; exact h1
    · cases h
  · intro h; rw [h]
theorem TO_some {n : Int} {l : List UInt8} {t : T} : TO n l = some t ↔ (1 ≤ n ∧ n ≤ 9) ∧ P l = some (t, []) ∧ Good n.toNat t := by
  unfold TO
  constructor
  · intro h
    split at h
    · rename_i h1
      split at h
      · rename_i t' h2
        split at h
        · rename_i h3
          simp only [Option.some.injEq] at h
          subst h
          exact ⟨h1, theTree_some.1 h2, h3⟩
        · cases h
      · cases h
    · cases h
  · rintro ⟨h1, h2, h3⟩
    rw [if_pos h1, theTree_some.2 h2]
    simp only [if_pos h3]
theorem TO_none {n : Int} {l : List UInt8} (h : ∀ t, ¬ ((1 ≤ n ∧ n ≤ 9) ∧ P l = some (t, []) ∧ Good n.toNat t)) : TO n l = none := by
  cases e : TO n l with
  | none => rfl
  | some t => exact absurd (TO_some.1 e) (h t)

theorem text_len : ∀ t : T, t.text.length + 2 = 3 * t.leaves.length
  | .leaf c => rfl
  | .node a b => by
    have h1 := text_len a
    have h2 := text_len b
    simp [T.text, T.leaves]
    omega
theorem leaves_pos (t : T) : 1 ≤ t.leaves.length := by have := text_len t; omega
theorem filter_low : ∀ t : T, t.okL → t.text.filter low = t.leaves
  | .leaf c, h => by have := h c (by simp [T.leaves]); simp [T.text, T.leaves, this]
  | .node a b, h => by
    obtain ⟨h1, h2⟩ := okL_node.1 h
    have e40 : low 40 = false := by decide
    have e41 : low 41 = false := by decide
    simp [T.text, T.leaves, e40, e41, filter_low a h1, filter_low b h2]

theorem letter_toNat (i : Nat) (h : i < 26) : (letter i).toNat = 97 + i := by
  unfold letter
  rw [UInt8.toNat_ofNat']
  omega
theorem letter_low (i : Nat) (h : i < 26) : low (letter i) = true := by
  unfold low
  rw [letter_toNat i h]
  simp; omega
theorem letter_inj {i j : Nat} (hi : i < 26) (hj : j < 26) (h : letter i = letter j) : i = j := by
  have := congrArg UInt8.toNat h
  rw [letter_toNat i hi, letter_toNat j hj] at this
  omega
theorem low_letter {c : UInt8} (h : low c = true) : ∃ i, i < 26 ∧ c = letter i := by
  unfold low at h
  simp only [decide_eq_true_eq] at h
  refine ⟨c.toNat - 97, by omega, ?_⟩
  apply UInt8.toNat_inj.1
  rw [letter_toNat _ (by omega)]
  omega

/-- how often a letter stands in a text -/
def many (c : UInt8) (l : List UInt8) : Nat := l.countP (fun d => d == c)

theorem many_filter {c : UInt8} (h : low c = true) (l : List UInt8) : many c l = many c (l.filter low) := by
  unfold many
  rw [List.countP_filter]
  congr 1
  funext d
  by_cases e : d = c
  · subst e; simp [h]
  · simp [e]

theorem sum_many_le (L : List UInt8) : ∀ n, n ≤ 26 → (∀ i, i < n → many (letter i) L = 1) → n ≤ (L.filter (fun c => decide (∃ i, i < n ∧ c = letter i))).length := by
  intro n
  induction n with
  | zero => intro _ _; omega
  | succ n ih =>
    intro hn h1
    have h2 := ih (by omega) (fun i hi => h1 i (by omega))
    have h3 := h1 n (by omega)
    have key : ∀ L : List UInt8, (L.filter (fun c => decide (∃ i, i < n + 1 ∧ c = letter i))).length = (L.filter (fun c => decide (∃ i, i < n ∧ c = letter i))).length + many (letter n) L := by
      intro L
      induction L with
      | nil => simp [many]
      | cons d L ih =>
        by_cases hd : d = letter n
        · have e1 : decide (∃ i, i < n + 1 ∧ d = letter i) = true := decide_eq_true ⟨n, by omega, hd⟩
          have e2 : decide (∃ i, i < n ∧ d = letter i) = false := decide_eq_false (by
            rintro ⟨i, hi, e⟩
            have := letter_inj (by omega) (by omega) (hd.symm.trans e)
            omega)
          have e3 : many (letter n) (d :: L) = many (letter n) L + 1 := by unfold many; rw [List.countP_cons_of_pos (by simpa using hd)]
          rw [List.filter_cons, if_pos e1, List.filter_cons, if_neg (by rw [e2]; simp), e3, List.length_cons, ih]
          omega
        · have e3 : many (letter n) (d :: L) = many (letter n) L := by unfold many; rw [List.countP_cons_of_neg (by simpa using hd)]
          have e4 : decide (∃ i, i < n + 1 ∧ d = letter i) = decide (∃ i, i < n ∧ d = letter i) := by
            rw [Bool.eq_iff_iff]
            simp only [decide_eq_true_eq]
            constructor
            · rintro ⟨i, hi, e⟩
              have : i ≠ n := by rintro rfl; exact hd e
              exact ⟨i, by omega, e⟩
            · rintro ⟨i, hi, e⟩; exact ⟨i, by omega, e⟩
          rw [List.filter_cons, List.filter_cons, e4, e3]
          split
          · simp only [List.length_cons, ih]; omega
          · exact ih
    rw [key, h3]
    omega

theorem good_of_counts (t : T) (n : Nat) (hn : n ≤ 26) (h1 : ∀ i, i < n → many (letter i) t.leaves = 1) (h2 : t.leaves.length = n) : Good n t := by
  have hs := sum_many_le t.leaves n hn h1
  have hall : t.leaves.filter (fun c => decide (∃ i, i < n ∧ c = letter i)) = t.leaves :=
    List.Sublist.eq_of_length_le List.filter_sublist (by omega)
  have hmem : ∀ c ∈ t.leaves, ∃ i, i < n ∧ c = letter i := by
    intro c hc
    rw [← hall] at hc
    have := (List.mem_filter.1 hc).2
    simpa using this
  refine ⟨h2, ?_, fun i hi => ?_⟩
  · rw [List.nodup_iff_count]
    intro c
    by_cases hc : c ∈ t.leaves
    · obtain ⟨i, hi, rfl⟩ := hmem c hc
      have := h1 i hi
      unfold many at this
      show List.countP _ _ ≤ 1
      omega
    · rw [List.count_eq_zero_of_not_mem hc]; omega
  · have := h1 i hi
    unfold many at this
    have hp : 0 < List.countP (fun d => d == letter i) t.leaves := by omega
    obtain ⟨d, hd, e⟩ := List.countP_pos_iff.1 hp
    have : d = letter i := by simpa using e
    rw [← this]; exact hd

theorem counts_of_good {t : T} {n : Nat} (h : Good n t) (i : Nat) (hi : i < n) : many (letter i) t.leaves = 1 := by
  have h1 := List.nodup_iff_count.1 h.2.1 (letter i)
  have h2 : 0 < List.count (letter i) t.leaves := List.count_pos_iff.2 (h.2.2 i hi)
  unfold many
  show List.count (letter i) t.leaves = 1
  omega

end Go.Proofs.Ytanhdnbjepjhlaa
