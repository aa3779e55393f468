/- The least cost of a tree of weights: the two least are put into one, until there is one. The plain laws. No program is named here. -/
import Init
namespace Go.Proofs.Ytanhdnbjepjhlaa

def ins (x : Int) : List Int → List Int
  | [] => [x]
  | y :: r => if x ≤ y then x :: y :: r else y :: ins x r
def isort : List Int → List Int
  | [] => []
  | x :: r => ins x (isort r)

theorem ins_perm (x : Int) : ∀ l : List Int, (ins x l).Perm (x :: l)
  | [] => List.Perm.refl _
  | y :: r => by
    unfold ins
    split
    · exact List.Perm.refl _
    · exact ((ins_perm x r).cons y).trans (List.Perm.swap x y r)
theorem isort_perm : ∀ l : List Int, (isort l).Perm l
  | [] => List.Perm.refl _
  | x :: r => (ins_perm x (isort r)).trans ((isort_perm r).cons x)
theorem ins_sorted (x : Int) : ∀ l : List Int, l.Pairwise (· ≤ ·) → (ins x l).Pairwise (· ≤ ·)
  | [], _ => by simp [ins]
  | y :: r, h => by
    obtain ⟨h1, h2⟩ := List.pairwise_cons.1 h
    unfold ins
    split
    · rename_i hx
      refine List.pairwise_cons.2 ⟨fun z hz => ?_, h⟩
      rcases List.mem_cons.1 hz with rfl | hz
      · exact hx
      · have := h1 z hz; omega
    · rename_i hx
      refine List.pairwise_cons.2 ⟨fun z hz => ?_, ins_sorted x r h2⟩
      rcases List.mem_cons.1 ((ins_perm x r).mem_iff.1 hz) with rfl | hz
      · omega
      · exact h1 z hz
theorem isort_sorted : ∀ l : List Int, (isort l).Pairwise (· ≤ ·)
  | [] => by simp [isort]
  | x :: r => ins_sorted x _ (isort_sorted r)

theorem sorted_uniq : ∀ l l' : List Int, l.Pairwise (· ≤ ·) → l'.Pairwise (· ≤ ·) → l.Perm l' → l = l'
  | [], l', _, _, hp => (List.nil_perm.1 hp).symm
  | a :: t, [], _, _, hp => absurd (List.perm_nil.1 hp) (by simp)
  | a :: t, b :: t', h, h', hp => by
    obtain ⟨h1, h2⟩ := List.pairwise_cons.1 h
    obtain ⟨h1', h2'⟩ := List.pairwise_cons.1 h'
    have ha : b ≤ a := by
      rcases List.mem_cons.1 (hp.mem_iff.1 (List.mem_cons_self)) with e | e
      · omega
      · exact h1' a e
    have hb : a ≤ b := by
      rcases List.mem_cons.1 (hp.mem_iff.2 (List.mem_cons_self)) with e | e
      · omega
      · exact h1 b e
    have e : a = b := by omega
    subst e
    rw [sorted_uniq t t' h2 h2' (List.Perm.cons_inv hp)]

theorem isort_uniq {l s : List Int} (hs : s.Pairwise (· ≤ ·)) (hp : s.Perm l) : isort l = s :=
  sorted_uniq _ _ (isort_sorted l) hs ((isort_perm l).trans hp.symm)
theorem isort_congr {l l' : List Int} (hp : l.Perm l') : isort l = isort l' :=
  sorted_uniq _ _ (isort_sorted l) (isort_sorted l') ((isort_perm l).trans (hp.trans (isort_perm l').symm))

/-- the sum of all sums that come up, n rounds -/
def huff : Nat → List Int → Int
  | 0, _ => 0
  | n + 1, l =>
    match isort l with
    | a :: b :: r => (a + b) + huff n (r ++ [a + b])
    | _ => 0

theorem huff_congr (n : Nat) {l l' : List Int} (hp : l.Perm l') : huff n l = huff n l' := by
  cases n with
  | zero => rfl
  | succ n => rw [huff, huff, isort_congr hp]
theorem huff_step {n : Nat} {l : List Int} {a b : Int} {r : List Int} (h : isort l = a :: b :: r) : huff (n + 1) l = (a + b) + huff n (r ++ [a + b]) := by rw [huff, h]
theorem huff_short {n : Nat} {l : List Int} (h : l.length ≤ 1) : huff n l = 0 := by
  cases n with
  | zero => rfl
  | succ n =>
    have := (isort_perm l).length_eq
    rw [huff]
    match hi : isort l with
    | [] => rfl
    | [x] => rfl
    | a :: b :: r => rw [hi] at this; simp at this; omega

/-! Weights at depths. -/
def cost : List (Int × Nat) → Int
  | [] => 0
  | p :: r => p.1 * p.2 + cost r
def kr (D : Nat) : List (Int × Nat) → Nat
  | [] => 0
  | p :: r => 2 ^ (D - p.2) + kr D r
def deps : List (Int × Nat) → Nat
  | [] => 0
  | p :: r => p.2 + deps r

theorem cost_perm {l l' : List (Int × Nat)} (h : l.Perm l') : cost l = cost l' := by
  induction h with
  | nil => rfl
  | cons x _ ih => simp [cost, ih]
  | swap x y l => simp only [cost]; omega
  | trans _ _ h1 h2 => exact h1.trans h2
theorem kr_perm (D : Nat) {l l' : List (Int × Nat)} (h : l.Perm l') : kr D l = kr D l' := by
  induction h with
  | nil => rfl
  | cons x _ ih => simp [kr, ih]
  | swap x y l => simp only [kr]; omega
  | trans _ _ h1 h2 => exact h1.trans h2
theorem deps_perm {l l' : List (Int × Nat)} (h : l.Perm l') : deps l = deps l' := by
  induction h with
  | nil => rfl
  | cons x _ ih => simp [deps, ih]
  | swap x y l => simp only [deps]; omega
  | trans _ _ h1 h2 => exact h1.trans h2

/-- the least weight and the greatest depth can be put together -/
theorem meet (a : Int) (m : Nat) (ps : List (Int × Nat)) (hm : ∀ p ∈ ps, a ≤ p.1 ∧ p.2 ≤ m) (ha : ∃ p ∈ ps, p.1 = a) (hd : ∃ p ∈ ps, p.2 = m) :
    ∃ r : List (Int × Nat), cost ((a, m) :: r) ≤ cost ps ∧ (∀ D, kr D ((a, m) :: r) = kr D ps) ∧ deps ((a, m) :: r) = deps ps ∧ ((a, m) :: r).length = ps.length ∧
      (((a, m) :: r).map (·.1)).Perm (ps.map (·.1)) ∧ (((a, m) :: r).map (·.2)).Perm (ps.map (·.2)) := by
  obtain ⟨⟨a', d⟩, hp, rfl⟩ := ha
  obtain ⟨q, hq⟩ : ∃ q, ps.Perm ((a', d) :: q) := ⟨_, List.perm_cons_erase hp⟩
  by_cases e : d = m
  · subst e
    exact ⟨q, Int.le_of_eq (cost_perm hq).symm, fun D => (kr_perm D hq).symm, (deps_perm hq).symm, hq.length_eq.symm, (hq.map _).symm, (hq.map _).symm⟩
  · obtain ⟨⟨x, m'⟩, hx, rfl⟩ := hd
    have hxq : (x, m') ∈ q := by
      rcases List.mem_cons.1 (hq.mem_iff.1 hx) with h | h
      · injection h with _ h2; exact absurd h2.symm e
      · exact h
    obtain ⟨q', hq'⟩ : ∃ q', q.Perm ((x, m') :: q') := ⟨_, List.perm_cons_erase hxq⟩
    have hall : ps.Perm ((a', d) :: (x, m') :: q') := hq.trans (hq'.cons _)
    have h1 := (hm _ hx).1
    have h2 := (hm _ hp).2
    refine ⟨(x, d) :: q', ?_, fun D => ?_, ?_, ?_, ?_, ?_⟩
    · rw [cost_perm hall]
      simp only [cost]
      have : 0 ≤ (x - a') * ((m' : Int) - d) := Int.mul_nonneg (by simp at h1; omega) (by simp at h2; omega)
      rw [Int.sub_mul, Int.mul_sub, Int.mul_sub] at this
      omega
    · rw [kr_perm D hall]; simp only [kr]; omega
    · rw [deps_perm hall]; simp only [deps]; omega
    · rw [hall.length_eq]; simp
    · exact ((hall.map (·.1)).symm)
    · refine List.Perm.trans ?_ (hall.map (·.2)).symm
      simp only [List.map_cons]
      exact List.Perm.swap _ _ _

theorem kr_mem {D : Nat} : ∀ {ps : List (Int × Nat)}, (∀ p ∈ ps, p.2 = 0) → kr D ps = ps.length * 2 ^ D
  | [], _ => by simp [kr]
  | p :: r, h => by
    have h1 := h p (by simp)
    have h2 := kr_mem (D := D) (ps := r) (fun q hq => h q (by simp [hq]))
    simp only [kr, h1, h2, List.length_cons, Nat.sub_zero, Nat.succ_mul]
    omega
theorem kr_scale {D m : Nat} (hD : m ≤ D) : ∀ {ps : List (Int × Nat)}, (∀ p ∈ ps, p.2 ≤ m) → kr D ps = kr m ps * 2 ^ (D - m)
  | [], _ => by simp [kr]
  | p :: r, h => by
    have h1 := h p (by simp)
    have h2 := kr_scale hD (ps := r) (fun q hq => h q (by simp [hq]))
    simp only [kr, h2, Nat.add_mul]
    rw [← Nat.pow_add, show m - p.2 + (D - m) = D - p.2 by omega]
theorem kr_even {m : Nat} : ∀ {ps : List (Int × Nat)}, (∀ p ∈ ps, p.2 < m) → kr m ps % 2 = 0
  | [], _ => by simp [kr]
  | p :: r, h => by
    have h1 := h p (by simp)
    have h2 := kr_even (ps := r) (fun q hq => h q (by simp [hq]))
    simp only [kr]
    have : 2 ^ (m - p.2) = 2 ^ (m - p.2 - 1) * 2 := by rw [← Nat.pow_succ]; congr 1; omega
    omega
theorem exists_max : ∀ (ps : List (Int × Nat)), ps ≠ [] → ∃ p ∈ ps, ∀ q ∈ ps, q.2 ≤ p.2
  | [], h => absurd rfl h
  | [p], _ => ⟨p, by simp, fun q hq => by simp at hq; rw [hq]; exact Nat.le_refl _⟩
  | p :: q :: r, _ => by
    obtain ⟨x, hx, hm⟩ := exists_max (q :: r) (by simp)
    by_cases h : x.2 ≤ p.2
    · refine ⟨p, by simp, fun y hy => ?_⟩
      rcases List.mem_cons.1 hy with rfl | hy
      · exact Nat.le_refl _
      · exact Nat.le_trans (hm y hy) h
    · refine ⟨x, by simp [hx], fun y hy => ?_⟩
      rcases List.mem_cons.1 hy with rfl | hy
      · omega
      · exact hm y hy

/-- No depths that leave no overlap cost less. -/
theorem huff_le : ∀ (n s : Nat) (ps : List (Int × Nat)) (D : Nat), ps.length = n → deps ps = s → (∀ p ∈ ps, 0 ≤ p.1 ∧ p.2 ≤ D) → kr D ps ≤ 2 ^ D → huff n (ps.map (·.1)) ≤ cost ps := by
  intro n
  induction n with
  | zero => intro s ps D hn _ _ _; have : ps = [] := List.eq_nil_of_length_eq_zero hn; subst this; simp [huff, cost]
  | succ n ihn =>
    intro s
    induction s using Nat.strongRecOn with
    | ind s ihs =>
      intro ps D hn hs hb hk
      by_cases h1 : n = 0
      · rw [huff_short (by simp; omega)]
        match ps, hn with
        | [p], _ =>
          simp only [cost]
          have := (hb p (by simp)).1
          have := Int.mul_nonneg this (Int.natCast_nonneg p.2)
          omega
        | p :: q :: r, hn => simp at hn; omega
      · obtain ⟨⟨wm, m⟩, hpm, hmax⟩ := exists_max ps (by intro e; rw [e] at hn; simp at hn)
        simp only at hmax
        have hmD : m ≤ D := (hb _ hpm).2
        have hk' : kr m ps ≤ 2 ^ m := by
          rw [kr_scale hmD hmax] at hk
          have e : 2 ^ D = 2 ^ m * 2 ^ (D - m) := by rw [← Nat.pow_add]; congr 1; omega
          rw [e] at hk
          exact Nat.le_of_mul_le_mul_right hk (Nat.pow_pos (by omega))
        have hm1 : 1 ≤ m := by
          rcases Nat.eq_zero_or_pos m with h0 | h0
          · subst h0
            have := kr_mem (D := 0) (ps := ps) (fun p hp => by have := hmax p hp; omega)
            rw [this] at hk'
            simp at hk'
            omega
          · exact h0
        -- the least weight
        have hsp := isort_perm (ps.map (·.1))
        have hss := isort_sorted (ps.map (·.1))
        match hi : isort (ps.map (·.1)) with
        | [] => have := hsp.length_eq; rw [hi] at this; simp at this; omega
        | [x] => have := hsp.length_eq; rw [hi] at this; simp at this; omega
        | a :: b :: r =>
          rw [hi] at hsp hss
          obtain ⟨s1, s2⟩ := List.pairwise_cons.1 hss
          obtain ⟨s3, s4⟩ := List.pairwise_cons.1 s2
          have hmin : ∀ p ∈ ps, a ≤ p.1 := by
            intro p hp
            have : p.1 ∈ a :: b :: r := hsp.mem_iff.2 (List.mem_map.2 ⟨p, hp, rfl⟩)
            rcases List.mem_cons.1 this with e | e
            · omega
            · exact s1 _ e
          have hin : ∃ p ∈ ps, p.1 = a := by
            have : a ∈ ps.map (·.1) := hsp.mem_iff.1 (by simp)
            obtain ⟨p, hp, e⟩ := List.mem_map.1 this
            exact ⟨p, hp, e⟩
          obtain ⟨q, hq1, hq2, hq3, hq4, hq5, hq6⟩ := meet a m ps (fun p hp => ⟨hmin p hp, hmax p hp⟩) hin ⟨_, hpm, rfl⟩
          have hqd : ∀ p ∈ q, p.2 ≤ m := by
            intro p hp
            have : p.2 ∈ ps.map (·.2) := hq6.mem_iff.1 (by simp; exact .inr ⟨_, hp⟩)
            obtain ⟨y, hy, e⟩ := List.mem_map.1 this
            have := hmax y hy
            omega
          have hqw : ∀ p ∈ q, 0 ≤ p.1 := by
            intro p hp
            have : p.1 ∈ ps.map (·.1) := hq5.mem_iff.1 (by simp; exact .inr ⟨_, hp⟩)
            obtain ⟨y, hy, e⟩ := List.mem_map.1 this
            have := (hb y hy).1
            omega
          have ha0 : 0 ≤ a := by
            obtain ⟨p, hp, e⟩ := hin
            have := (hb p hp).1
            omega
          by_cases h2 : ∃ p ∈ q, p.2 = m
          · -- two of the greatest depth
            have hqb : (q.map (·.1)).Perm (b :: r) := by
              have := hq5.trans hsp.symm
              simp only [List.map_cons] at this
              exact List.Perm.cons_inv this
            have hminb : ∀ p ∈ q, b ≤ p.1 := by
              intro p hp
              have : p.1 ∈ b :: r := hqb.mem_iff.1 (List.mem_map.2 ⟨p, hp, rfl⟩)
              rcases List.mem_cons.1 this with e | e
              · omega
              · exact s3 _ e
            have hinb : ∃ p ∈ q, p.1 = b := by
              have : b ∈ q.map (·.1) := hqb.mem_iff.2 (by simp)
              obtain ⟨p, hp, e⟩ := List.mem_map.1 this
              exact ⟨p, hp, e⟩
            obtain ⟨u, hu1, hu2, hu3, hu4, hu5, hu6⟩ := meet b m q (fun p hp => ⟨hminb p hp, hqd p hp⟩) hinb h2
            have hub : (u.map (·.1)).Perm r := by
              have := hu5.trans hqb
              simp only [List.map_cons] at this
              exact List.Perm.cons_inv this
            have hud : ∀ p ∈ u, p.2 ≤ m := by
              intro p hp
              have : p.2 ∈ q.map (·.2) := hu6.mem_iff.1 (by simp; exact .inr ⟨_, hp⟩)
              obtain ⟨y, hy, e⟩ := List.mem_map.1 this
              have := hqd y hy
              omega
            have huw : ∀ p ∈ u, 0 ≤ p.1 := by
              intro p hp
              have : p.1 ∈ q.map (·.1) := hu5.mem_iff.1 (by simp; exact .inr ⟨_, hp⟩)
              obtain ⟨y, hy, e⟩ := List.mem_map.1 this
              have := hqw y hy
              omega
            have hb0 : 0 ≤ b := by have := s1 b (by simp); omega
            have hlen : (u ++ [(a + b, m - 1)]).length = n := by
              simp only [List.length_cons] at hq4 hu4
              simp
              omega
            have hkk : kr m (u ++ [(a + b, m - 1)]) ≤ 2 ^ m := by
              have e1 : kr m (u ++ [(a + b, m - 1)]) = kr m ((a + b, m - 1) :: u) := kr_perm m (List.perm_append_comm (l₁ := u) (l₂ := [(a + b, m - 1)]))
              have e2 := hq2 m
              have e3 := hu2 m
              simp only [kr, Nat.sub_self, Nat.pow_zero] at e1 e2 e3
              rw [e1, show m - (m - 1) = 1 by omega]
              omega
            have key := ihn _ (u ++ [(a + b, m - 1)]) m hlen rfl (fun p hp => by
              rcases List.mem_append.1 hp with h | h
              · exact ⟨huw p h, hud p h⟩
              · simp at h; subst h; exact ⟨by simp; omega, by simp⟩) hkk
            rw [huff_step hi]
            have e4 : huff n ((u ++ [(a + b, m - 1)]).map (·.1)) = huff n (r ++ [a + b]) := huff_congr n (by simpa using hub.append_right [a + b])
            rw [e4] at key
            have e5 : cost (u ++ [(a + b, m - 1)]) = cost ((a + b, m - 1) :: u) := cost_perm (List.perm_append_comm (l₁ := u) (l₂ := [(a + b, m - 1)]))
            rw [e5] at key
            simp only [cost] at key hq1 hu1
            have e6 : ((m - 1 : Nat) : Int) = (m : Int) - 1 := by omega
            rw [e6, Int.mul_sub, Int.add_mul] at key
            omega
          · -- one alone: it can be raised
            have hev := kr_even (m := m) (ps := q) (fun p hp => by
              have := hqd p hp
              have : p.2 ≠ m := fun e => h2 ⟨p, hp, e⟩
              omega)
            have e2 := hq2 m
            simp only [kr, Nat.sub_self, Nat.pow_zero] at e2
            have hpe : 2 ^ m % 2 = 0 := by
              have : 2 ^ m = 2 ^ (m - 1) * 2 := by rw [← Nat.pow_succ]; congr 1; omega
              omega
            have key := ihs (deps ((a, m - 1) :: q)) (by simp only [deps] at hq3 ⊢; omega) ((a, m - 1) :: q) m (by simp only [List.length_cons] at hq4 ⊢; omega) rfl (fun p hp => by
              rcases List.mem_cons.1 hp with rfl | h
              · exact ⟨ha0, by simp⟩
              · exact ⟨hqw p h, hqd p h⟩) (by
              simp only [kr]
              rw [show m - (m - 1) = 1 by omega]
              omega)
            have e4 : huff (n + 1) (((a, m - 1) :: q).map (·.1)) = huff (n + 1) (ps.map (·.1)) := huff_congr (n + 1) (by simpa using hq5)
            rw [e4] at key
            simp only [cost] at key hq1
            have e6 : ((m - 1 : Nat) : Int) = (m : Int) - 1 := by omega
            rw [e6, Int.mul_sub] at key
            omega

/-- These sums are the cost of some depths. -/
theorem huff_is : ∀ (n : Nat) (l : List Int), l.length = n → 1 ≤ n → ∃ (ps : List (Int × Nat)) (D : Nat), (ps.map (·.1)).Perm l ∧ (∀ p ∈ ps, p.2 ≤ D) ∧ kr D ps ≤ 2 ^ D ∧ cost ps = huff n l := by
  intro n
  induction n with
  | zero => intro l _ h; omega
  | succ n ih =>
    intro l hl _
    by_cases h1 : n = 0
    · match l, hl with
      | [x], _ => exact ⟨[(x, 0)], 0, by simp, by simp, by simp [kr], by rw [huff_short (by simp)]; simp [cost]⟩
      | x :: y :: r, hl => simp at hl; omega
    · have hsp := isort_perm l
      match hi : isort l with
      | [] => have := hsp.length_eq; rw [hi] at this; simp at this; omega
      | [x] => have := hsp.length_eq; rw [hi] at this; simp at this; omega
      | a :: b :: r =>
        rw [hi] at hsp
        have hlen : (r ++ [a + b]).length = n := by have := hsp.length_eq; simp at this ⊢; omega
        obtain ⟨ps, D, h2, h3, h4, h5⟩ := ih (r ++ [a + b]) hlen (by omega)
        have hin : a + b ∈ ps.map (·.1) := h2.mem_iff.2 (by simp)
        obtain ⟨⟨ab, d⟩, hp, e⟩ := List.mem_map.1 hin
        simp only at e
        subst e
        have hq := List.perm_cons_erase hp
        generalize ps.erase (a + b, d) = q at hq
        have hqr : (q.map (·.1)).Perm r := by
          have e1 := (hq.map (·.1)).symm.trans h2
          simp only [List.map_cons] at e1
          have e2 := e1.trans (List.perm_append_comm (l₁ := r) (l₂ := [a + b]))
          exact List.Perm.cons_inv (a := a + b) e2
        refine ⟨(a, d + 1) :: (b, d + 1) :: q, D + 1, ?_, ?_, ?_, ?_⟩
        · simp only [List.map_cons]
          exact ((hqr.cons b).cons a).trans hsp
        · intro p hp'
          have hd := h3 _ hp
          rcases List.mem_cons.1 hp' with rfl | hp'
          · simp at hd ⊢; omega
          · rcases List.mem_cons.1 hp' with rfl | hp'
            · simp at hd ⊢; omega
            · have := h3 p (hq.mem_iff.2 (by simp [hp'])); omega
        · have e1 := kr_perm D hq
          rw [e1] at h4
          have e2 : kr (D + 1) q = kr D q * 2 := by
            have := kr_scale (D := D + 1) (m := D) (by omega) (ps := q) (fun p hp' => h3 p (hq.mem_iff.2 (by simp [hp'])))
            rw [this, show D + 1 - D = 1 by omega]
          simp only [kr] at h4 ⊢
          rw [e2, show D + 1 - (d + 1) = D - d by omega, Nat.pow_succ]
          omega
        · rw [huff_step hi, ← h5, cost_perm hq]
          simp only [cost]
          have e6 : ((d + 1 : Nat) : Int) = (d : Int) + 1 := by omega
          rw [e6, Int.mul_add, Int.mul_add, Int.add_mul]
          omega

theorem huff_zero_ge (l : List Int) (hl : 1 ≤ l.length) (h0 : ∀ x ∈ l, 0 ≤ x) : huff l.length l ≤ huff (l.length + 1) (0 :: l) := by
  obtain ⟨ps, D, h2, h3, h4, h5⟩ := huff_is (l.length + 1) (0 :: l) (by simp) (by omega)
  have hin : (0 : Int) ∈ ps.map (·.1) := h2.mem_iff.2 (by simp)
  obtain ⟨⟨z, d⟩, hp, e⟩ := List.mem_map.1 hin
  simp only at e
  subst e
  have hq := List.perm_cons_erase hp
  generalize ps.erase (0, d) = q at hq
  have hql : (q.map (·.1)).Perm l := by
    have e1 := (hq.map (·.1)).symm.trans h2
    simp only [List.map_cons] at e1
    exact List.Perm.cons_inv e1
  have key := huff_le l.length (deps q) q D (by have := hql.length_eq; simpa using this) rfl (fun p hp' => ⟨h0 _ (hql.mem_iff.1 (List.mem_map.2 ⟨p, hp', rfl⟩)), h3 p (hq.mem_iff.2 (by simp [hp']))⟩) (by
    rw [kr_perm D hq] at h4
    simp only [kr] at h4
    exact Nat.le_trans (Nat.le_add_left _ _) h4)
  rw [huff_congr _ hql] at key
  rw [← h5, cost_perm hq]
  simp only [cost]
  omega

def sumL : List Int → Int
  | [] => 0
  | x :: r => x + sumL r
theorem sumL_perm {l l' : List Int} (h : l.Perm l') : sumL l = sumL l' := by
  induction h with
  | nil => rfl
  | cons x _ ih => simp [sumL, ih]
  | swap x y l => simp only [sumL]; omega
  | trans _ _ h1 h2 => exact h1.trans h2
def deeper (ps : List (Int × Nat)) : List (Int × Nat) := ps.map fun p => (p.1, p.2 + 1)
theorem deeper_cost : ∀ ps : List (Int × Nat), cost (deeper ps) = cost ps + sumL (ps.map (·.1))
  | [] => by simp [deeper, cost, sumL]
  | p :: r => by
    have := deeper_cost r
    simp only [deeper, List.map_cons, cost, sumL] at this ⊢
    rw [this]
    have e6 : ((p.2 + 1 : Nat) : Int) = (p.2 : Int) + 1 := by omega
    rw [e6, Int.mul_add]
    omega
theorem deeper_kr (D : Nat) : ∀ ps : List (Int × Nat), kr (D + 1) (deeper ps) = kr D ps
  | [] => by simp [deeper, kr]
  | p :: r => by
    have := deeper_kr D r
    simp only [deeper, List.map_cons, kr] at this ⊢
    rw [this, show D + 1 - (p.2 + 1) = D - p.2 by omega]

theorem huff_zero_le (l : List Int) (hl : 1 ≤ l.length) (h0 : ∀ x ∈ l, 0 ≤ x) : huff (l.length + 1) (0 :: l) ≤ huff l.length l + sumL l := by
  obtain ⟨ps, D, h2, h3, h4, h5⟩ := huff_is l.length l rfl hl
  have key := huff_le (l.length + 1) _ ((0, 1) :: deeper ps) (D + 1) (by have := h2.length_eq; simp [deeper] at this ⊢; exact this) rfl (fun p hp => by
      rcases List.mem_cons.1 hp with rfl | hp
      · simp
      · simp only [deeper, List.mem_map] at hp
        obtain ⟨q, hq, rfl⟩ := hp
        have := h3 q hq
        exact ⟨h0 _ (h2.mem_iff.1 (List.mem_map.2 ⟨q, hq, rfl⟩)), by simp; omega⟩) (by
      simp only [kr]
      rw [deeper_kr, show D + 1 - 1 = D by omega, Nat.pow_succ]
      omega)
  have e : huff (l.length + 1) (((0, 1) :: deeper ps).map (·.1)) = huff (l.length + 1) (0 :: l) := huff_congr _ (by simpa [deeper, Function.comp_def] using h2)
  rw [e] at key
  simp only [cost] at key
  rw [deeper_cost, h5, sumL_perm h2] at key
  omega

end Go.Proofs.Ytanhdnbjepjhlaa
