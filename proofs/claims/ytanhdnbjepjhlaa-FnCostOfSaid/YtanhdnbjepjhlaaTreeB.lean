/- Trees of things: depths, answers, and Kraft's sum. The plain laws. No program is named here. -/
import Derived.Test.YtanhdnbjepjhlaaTree0
import Derived.Test.YtanhdnbjepjhlaaHuff
namespace Go.Proofs.Ytanhdnbjepjhlaa

/-- the answers until a thing is found -/
def ask : T → UInt8 → List Int
  | .leaf _, _ => []
  | .node a b, c => if c ∈ a.leaves then 1 :: ask a c else 0 :: ask b c

theorem ask_path : ∀ (t : T) (D : M) (p : List Int) (c : UInt8), t.leaves.Nodup → c ∈ t.leaves → updAll D (t.paths p) c = some (p ++ ask t c)
  | .leaf d, D, p, c, _, hc => by
    simp [T.leaves] at hc
    subst hc
    simp [T.paths, updAll, upd, ask]
  | .node a b, D, p, c, hn, hc => by
    simp only [T.leaves, List.nodup_append] at hn
    obtain ⟨h1, h2, h3⟩ := hn
    rw [T.paths, updAll_append, ask]
    by_cases ha : c ∈ a.leaves
    · rw [if_pos ha, updAll_other (by rw [paths_fst]; intro hb; exact h3 c ha c hb rfl), ask_path a D _ c h1 ha]
      simp
    · have hb : c ∈ b.leaves := by
        rcases List.mem_append.1 hc with h | h
        · exact absurd h ha
        · exact h
      rw [if_neg ha, ask_path b _ _ c h2 hb]
      simp

theorem ask_ne : ∀ (t : T) (c d : UInt8), c ∈ t.leaves → d ∈ t.leaves → c ≠ d → ask t c ≠ ask t d
  | .leaf x, c, d, hc, hd, hne => by simp [T.leaves] at hc hd; exact absurd (hc.trans hd.symm) hne
  | .node a b, c, d, hc, hd, hne => by
    rw [ask, ask]
    by_cases ha : c ∈ a.leaves <;> by_cases hb : d ∈ a.leaves
    · rw [if_pos ha, if_pos hb]; intro e; injection e with _ e; exact ask_ne a c d ha hb hne e
    · rw [if_pos ha, if_neg hb]; intro e; injection e with e _; omega
    · rw [if_neg ha, if_pos hb]; intro e; injection e with e _; omega
    · rw [if_neg ha, if_neg hb]; intro e; injection e with _ e
      have hc' : c ∈ b.leaves := by rcases List.mem_append.1 hc with h | h; · exact absurd h ha
                                    · exact h
      have hd' : d ∈ b.leaves := by rcases List.mem_append.1 hd with h | h; · exact absurd h hb
                                    · exact h
      exact ask_ne b c d hc' hd' hne e

theorem ask_len : ∀ (t : T) (c : UInt8), (ask t c).length + 1 ≤ t.leaves.length
  | .leaf _, _ => by simp [ask, T.leaves]
  | .node a b, c => by
    have h1 := ask_len a c
    have h2 := ask_len b c
    have h3 := leaves_pos a
    have h4 := leaves_pos b
    rw [ask]
    split <;> simp [T.leaves] <;> omega

/-- the weights of the letters, at their depths -/
def wd (w : UInt8 → Int) (t : T) : List (Int × Nat) := t.leaves.map fun c => (w c, (ask t c).length)

theorem kr_append (D : Nat) : ∀ p q : List (Int × Nat), kr D (p ++ q) = kr D p + kr D q
  | [], q => by simp [kr]
  | x :: p, q => by simp only [List.cons_append, kr, kr_append D p q]; omega

theorem wd_node (w : UInt8 → Int) (a b : T) (h : (T.node a b).leaves.Nodup) : wd w (.node a b) = deeper (wd w a) ++ deeper (wd w b) := by
  simp only [T.leaves, List.nodup_append] at h
  obtain ⟨_, _, h3⟩ := h
  unfold wd deeper
  rw [T.leaves, List.map_append, List.map_map, List.map_map]
  congr 1
  · apply List.map_congr_left
    intro c hc
    simp [ask, hc]
  · apply List.map_congr_left
    intro c hc
    have : c ∉ a.leaves := fun ha => h3 c ha c hc rfl
    simp [ask, this]

/-- Depths leave no room. -/
theorem kraft (w : UInt8 → Int) : ∀ (t : T) (D : Nat), t.leaves.Nodup → t.leaves.length ≤ D + 1 → kr D (wd w t) = 2 ^ D
  | .leaf c, D, _, _ => by simp [wd, T.leaves, ask, kr]
  | .node a b, D, hn, hD => by
    have hn' := hn
    simp only [T.leaves, List.nodup_append] at hn'
    have h3 := leaves_pos a
    have h4 := leaves_pos b
    simp only [T.leaves, List.length_append] at hD
    obtain ⟨D', rfl⟩ : ∃ D', D = D' + 1 := ⟨D - 1, by omega⟩
    rw [wd_node w a b hn, kr_append, deeper_kr, deeper_kr, kraft w a D' hn'.1 (by omega), kraft w b D' hn'.2.1 (by omega), Nat.pow_succ]
    omega

theorem good_perm {n : Nat} {t : T} (h : Good n t) (hn : n ≤ 26) : ((List.range n).map letter).Perm t.leaves := by
  have h1 : ((List.range n).map letter).Nodup := by
    rw [List.nodup_iff_pairwise_ne, List.pairwise_map]
    refine List.Pairwise.imp_of_mem ?_ (List.nodup_iff_pairwise_ne.1 List.nodup_range)
    intro a b ha hb hne e
    exact hne (letter_inj (by have := List.mem_range.1 ha; omega) (by have := List.mem_range.1 hb; omega) e)
  have hc1 := List.nodup_iff_count.1 h1
  have hc2 := List.nodup_iff_count.1 h.2.1
  have hall : ∀ c, c ∈ (List.range n).map letter → c ∈ t.leaves := by
    intro c hc
    obtain ⟨i, hi, rfl⟩ := List.mem_map.1 hc
    exact h.2.2 i (List.mem_range.1 hi)
  have hsub := List.filter_sublist (p := fun c => decide (c ∈ (List.range n).map letter)) (l := t.leaves)
  -- the letters among the leaves are as many as the leaves
  have hp : ((List.range n).map letter).Perm (t.leaves.filter (fun c => decide (c ∈ (List.range n).map letter))) := by
    rw [List.perm_iff_count]
    intro c
    by_cases hc : c ∈ (List.range n).map letter
    · have e1 := hc1 c
      have e2 := hc2 c
      have e3 := List.count_pos_iff.2 hc
      have e4 := List.count_pos_iff.2 (hall c hc)
      rw [List.count_filter (by simpa using hc)]
      omega
    · rw [List.count_eq_zero_of_not_mem hc, List.count_eq_zero_of_not_mem (by
        intro hf
        have := (List.mem_filter.1 hf).2
        exact hc (by simpa using this))]
  have hlen := hp.length_eq
  simp only [List.length_map, List.length_range] at hlen
  have e := hsub.eq_of_length_le (by rw [← hlen, h.1]; exact Nat.le_refl _)
  rw [e] at hp
  exact hp

theorem good_mem {n : Nat} {t : T} (h : Good n t) (hn : n ≤ 26) {c : UInt8} (hc : c ∈ t.leaves) : ∃ i, i < n ∧ c = letter i := by
  have := (good_perm h hn).mem_iff.2 hc
  obtain ⟨i, hi, e⟩ := List.mem_map.1 this
  exact ⟨i, List.mem_range.1 hi, e.symm⟩

/-- the depth of a thing -/
def dep (t : T) (i : Nat) : Nat := (ask t (letter i)).length
def DL (n : Nat) (t : T) : List Int := (List.range n).map fun i => (dep t i : Int)
theorem DL_length (n : Nat) (t : T) : (DL n t).length = n := by simp [DL]
theorem DL_getD (n : Nat) (t : T) (i : Nat) (h : i < n) : (DL n t).getD i 0 = dep t i := by simp [DL, List.getD, h]

/-- the things' numbers at their depths -/
def td (xs : List Int) (n : Nat) (t : T) : List (Int × Nat) := (List.range n).map fun i => (xs.getD i 0, dep t i)

theorem td_perm {n : Nat} {t : T} (h : Good n t) (hn : n ≤ 26) (xs : List Int) : ∃ w : UInt8 → Int, (td xs n t).Perm (wd w t) := by
  refine ⟨fun c => xs.getD (c.toNat - 97) 0, ?_⟩
  have := (good_perm h hn).map (fun c : UInt8 => (xs.getD (c.toNat - 97) 0, (ask t c).length))
  rw [List.map_map] at this
  refine List.Perm.trans (List.Perm.of_eq ?_) this
  unfold td
  apply List.map_congr_left
  intro i hi
  have hi := List.mem_range.1 hi
  simp only [Function.comp, dep]
  rw [letter_toNat i (by omega), show 97 + i - 97 = i by omega]

theorem td_kraft {n : Nat} {t : T} (h : Good n t) (hn : n ≤ 26) (xs : List Int) (D : Nat) (hD : n ≤ D + 1) : kr D (td xs n t) = 2 ^ D := by
  obtain ⟨w, hp⟩ := td_perm h hn xs
  rw [kr_perm D hp, kraft w t D h.2.1 (by rw [h.1]; exact hD)]

theorem dep_lt {n : Nat} {t : T} (h : Good n t) (i : Nat) : dep t i + 1 ≤ n := by
  have := ask_len t (letter i)
  rw [h.1] at this
  exact this

/-- the sum of the products -/
def CO (xs : List Int) (n : Nat) (t : T) : Nat → Int
  | 0 => 0
  | k + 1 => CO xs n t k + xs.getD k 0 * dep t k

theorem cost_append : ∀ p q : List (Int × Nat), cost (p ++ q) = cost p + cost q
  | [], q => by simp [cost]
  | x :: p, q => by simp only [List.cons_append, cost, cost_append p q]; omega
theorem CO_cost (xs : List Int) (n : Nat) (t : T) : ∀ k, CO xs n t k = cost (td xs k t)
  | 0 => rfl
  | k + 1 => by
    have e : td xs (k + 1) t = td xs k t ++ [(xs.getD k 0, dep t k)] := by unfold td; rw [List.range_succ, List.map_append]; rfl
    rw [e, cost_append, CO, CO_cost xs n t k]
    simp [cost]
theorem td_fst (xs : List Int) (t : T) : (td xs xs.length t).map (·.1) = xs := by
  unfold td
  rw [List.map_map]
  apply List.ext_getElem
  · simp
  · intro i h1 h2
    simp [h2]

theorem cost_ge {t : T} {xs : List Int} (h : Good xs.length t) (hn : xs.length ≤ 26) (h0 : ∀ x ∈ xs, 0 ≤ x) : huff xs.length xs ≤ CO xs xs.length t xs.length := by
  have hk := td_kraft h hn xs xs.length (by omega)
  have key := huff_le xs.length _ (td xs xs.length t) xs.length (by simp [td]) rfl (fun p hp => by
    simp only [td, List.mem_map, List.mem_range] at hp
    obtain ⟨i, hi, rfl⟩ := hp
    have := dep_lt h i
    refine ⟨h0 _ ?_, by simp only []; omega⟩
    rw [List.getD_eq_getElem?_getD, List.getElem?_eq_getElem hi]
    exact List.getElem_mem hi) (by rw [hk]; exact Nat.le_refl _)
  rw [td_fst] at key
  rw [CO_cost]
  exact key

/-- the scan of a text for depths: how deep, and what has been told of each letter -/
def scan (s : Int × (UInt8 → Int)) (c : UInt8) : Int × (UInt8 → Int) :=
  if c = 40 then (s.1 + 1, s.2) else if c = 41 then (s.1 - 1, s.2) else (s.1, fun d => if d = c then s.1 else s.2 d)

theorem scan_text : ∀ (t : T) (p : List Int) (D : M) (o : UInt8 → Int), t.okL → (∀ c q, D c = some q → o c = (q.length : Int)) →
    ∃ o', t.text.foldl scan ((p.length : Int), o) = ((p.length : Int), o') ∧ ∀ c q, updAll D (t.paths p) c = some q → o' c = (q.length : Int)
  | .leaf x, p, D, o, ho, h => by
    have hx : low x = true := ho x (by simp [T.leaves])
    have h40 : x ≠ 40 := by rintro rfl; exact absurd hx (by decide)
    have h41 : x ≠ 41 := by rintro rfl; exact absurd hx (by decide)
    refine ⟨_, by simp [T.text, scan, h40, h41]; rfl, fun c q hq => ?_⟩
    simp only [T.paths, updAll, List.foldl_cons, List.foldl_nil, upd] at hq
    by_cases e : c = x
    · rw [if_pos e] at hq
      injection hq with hq
      subst hq
      simp [e]
    · rw [if_neg e] at hq
      simp [e, h c q hq]
  | .node a b, p, D, o, ho, h => by
    obtain ⟨oa, ob⟩ := okL_node.1 ho
    obtain ⟨o1, e1, h1⟩ := scan_text a (p ++ [1]) D o oa h
    obtain ⟨o2, e2, h2⟩ := scan_text b (p ++ [0]) (updAll D (a.paths (p ++ [1]))) o1 ob h1
    refine ⟨o2, ?_, by rw [T.paths, updAll_append]; exact h2⟩
    have el1 : (((p ++ [1]).length : Nat) : Int) = (p.length : Int) + 1 := by simp
    have el2 : (((p ++ [0]).length : Nat) : Int) = (p.length : Int) + 1 := by simp
    rw [el1] at e1
    rw [el2] at e2
    have s0 : scan ((p.length : Int), o) 40 = ((p.length : Int) + 1, o) := by simp [scan]
    have s1 : scan ((p.length : Int) + 1, o2) 41 = ((p.length : Int), o2) := by
      simp [scan]
    rw [T.text, List.foldl_cons, s0, List.foldl_append, e1, List.foldl_append, e2, List.foldl_cons, s1, List.foldl_nil]

theorem scan_all {t : T} (ho : t.okL) (hn : t.leaves.Nodup) {c : UInt8} (hc : c ∈ t.leaves) : (t.text.foldl scan (0, fun _ => 0)).2 c = ((ask t c).length : Int) := by
  obtain ⟨o', e, h⟩ := scan_text t [] (fun _ => none) (fun _ => 0) ho (fun c q hq => by cases hq)
  have := h c _ (ask_path t (fun _ => none) [] c hn hc)
  simp only [List.length_nil, Int.natCast_zero] at e
  rw [show (t.text.foldl scan (0, fun _ => 0)).2 c = o' c by rw [e]]
  simpa using this

/-- the scan's depth stays small -/
theorem scan_bd : ∀ (l : List UInt8) (s : Int × (UInt8 → Int)), s.1 - l.length ≤ (l.foldl scan s).1 ∧ (l.foldl scan s).1 ≤ s.1 + l.length
  | [], s => by simp
  | c :: l, s => by
    have := scan_bd l (scan s c)
    have h2 : s.1 - 1 ≤ (scan s c).1 ∧ (scan s c).1 ≤ s.1 + 1 := by
      unfold scan
      split
      · simp only []; omega
      · split <;> simp only [] <;> omega
    rw [List.foldl_cons, List.length_cons]
    omega

/-- the greatest of the first k depths, -1 if there is none -/
def WO (t : T) : Nat → Int
  | 0 => -1
  | k + 1 => max (WO t k) (dep t k)
theorem WO_ge (t : T) : ∀ k i, i < k → (dep t i : Int) ≤ WO t k
  | 0, i, h => by omega
  | k + 1, i, h => by
    rw [WO]
    by_cases e : i = k
    · subst e; omega
    · have := WO_ge t k i (by omega); omega
theorem WO_lt {n : Nat} {t : T} (h : Good n t) : ∀ k, WO t k < n
  | 0 => by rw [WO]; omega
  | k + 1 => by have := WO_lt h k; have := dep_lt h k; rw [WO]; omega
theorem WO_lo (t : T) : ∀ k, -1 ≤ WO t k
  | 0 => by rw [WO]; omega
  | k + 1 => by have := WO_lo t k; rw [WO]; omega

theorem kr_low (D W : Nat) : ∀ ps : List (Int × Nat), (∀ p ∈ ps, p.2 ≤ W) → ps.length * 2 ^ (D - W) ≤ kr D ps
  | [], _ => by simp
  | p :: r, h => by
    have h1 := kr_low D W r (fun q hq => h q (by simp [hq]))
    have h2 := h p (by simp)
    have h3 : 2 ^ (D - W) ≤ 2 ^ (D - p.2) := Nat.pow_le_pow_right (by omega) (by omega)
    simp only [kr, List.length_cons, Nat.succ_mul]
    omega
/-- so many things need so many questions -/
theorem worst_pow {n : Nat} {t : T} (h : Good n t) (hn : n ≤ 26) (W : Nat) (hW : WO t n ≤ W) (h1 : 1 ≤ n) : n ≤ 2 ^ W := by
  have hk := td_kraft h hn [] (n + W) (by omega)
  have hl := kr_low (n + W) W (td [] n t) (fun p hp => by
    simp only [td, List.mem_map, List.mem_range] at hp
    obtain ⟨i, hi, rfl⟩ := hp
    have := WO_ge t n i hi
    simp only []
    omega)
  rw [hk] at hl
  simp only [td, List.length_map, List.length_range, show n + W - W = n by omega] at hl
  rw [Nat.pow_add, Nat.mul_comm (2 ^ n)] at hl
  exact Nat.le_of_mul_le_mul_right hl (Nat.pow_pos (by omega))

end Go.Proofs.Ytanhdnbjepjhlaa
