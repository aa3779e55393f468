/- A code that fits guesses: impl.fits. -/
import Derived.Test.YtkkjgcpkimjfkaaProg
import Derived.Test.YtkkjgcpkimjfkaaGs2
import Derived.Test.YtkkjgcpkimjfkaaCodes5
import Derived.Deep.RegionHeld3
namespace Go.Proofs.Ytkkjgcpkimjfkaa
open Go.RowKit

/-- a guess has its answer, for a code -/
def Hit (p c : Int) (code : List Int) (g : Gs) : Bool := decide (RA p c code g.code = g.right) && decide (RB p c code g.code = g.near)
/-- a code fits guesses -/
def Fit (p c : Int) (gs : List Gs) (code : List Int) : Bool := gs.all (Hit p c code)
theorem any_not_hit (p c : Int) (gs : List Gs) (code : List Int) : gs.any (fun g => !Hit p c code g) = !Fit p c gs code := by
  unfold Fit
  induction gs with
  | nil => rfl
  | cons g gs ih => simp only [List.any_cons, List.all_cons, ih, Bool.not_and]

set_option maxHeartbeats 4000000 in
theorem fitno_any (p c : Int) (b1 : Nat) (uc u : Value) (code : List Int) (g : Gs) (W : World) (h1 : W.cell? ⟨b1, 0, none⟩ = some uc) (hc : Rd W uc code) (hr : Rd W u g.code) (ok1 : COk p c code = true) (ok2 : COk p c g.code = true) :
    Calls Try.prog 71 #[.agg #[u, .int .i64 g.right, .int .i64 g.near], .pointer (some ⟨b1, 0, none⟩)] W (BelRet (!Hit p c code g) W) := by
  have e1 : RA p c code g.code = eqs code g.code code.length := if_pos ⟨ok1, ok2⟩
  have e2 : RB p c code g.code = (com code g.code code.length 5 : Int) - eqs code g.code code.length := if_pos ⟨ok1, ok2⟩
  have hH : Hit p c code g = (decide ((eqs code g.code code.length : Int) = g.right) && decide ((com code g.code code.length 5 : Int) - eqs code g.code code.length = g.near)) := by unfold Hit; rw [e1, e2]
  clear e1 e2
  obtain ⟨gc, r, n⟩ := g
  simp only at hr ok2 hH ⊢
  obtain ⟨⟨p1, p2⟩, ⟨c1, c2⟩, l1, q1⟩ := COk_is ok1
  obtain ⟨_, _, l2, q2⟩ := COk_is ok2
  obtain ⟨C, rfl⟩ := Int.eq_ofNat_of_zero_le (show 0 ≤ c by omega)
  have ly : gc.length = code.length := by omega
  have KA := Lib.hid (fun w3 (b : Below W.heap.size W w3) => answer_any code.length C uc u code gc w3 (hc.below b) (hr.below b) (by omega) (by omega) (by omega) rfl ly q1 (fun j hj => q2 j (by omega)))
  have hle : (eqs code gc code.length : Int) ≤ 3 := by have := eqs_le code gc code.length; omega
  have hcm : (com code gc code.length 5 : Int) ≤ 15 := by have := com_le code gc code.length 5; omega
  generalize (com code gc code.length 5 : Int) - eqs code gc code.length = q at *
  generalize (eqs code gc code.length : Int) = s at *
  have HR : Hid ((!Hit p C code ⟨gc, r, n⟩) = !(decide (s = r) && decide (q = n))) := by show _ = _; rw [hH]
  generalize (!Hit p C code ⟨gc, r, n⟩) = res at *
  have ha : Below W.heap.size W (W.alloc (.cells #[u, .int .i64 r, .int .i64 n] 55)) := (Below.refl _ _).alloc (Nat.le_refl _) _
  have hl1 : b1 < W.heap.size := World.block_lt_of_cell? W _ h1
  obtain ⟨wB, hwB⟩ : ∃ wB, wB = W.alloc (.cells #[u, .int .i64 r, .int .i64 n] 55) := ⟨_, rfl⟩
  have d0 : wB.cell? ⟨W.heap.size, 0, none⟩ = some u := by rw [hwB]; simp
  have d1 : wB.cell? ⟨W.heap.size, 1, none⟩ = some (.int .i64 r) := by rw [hwB]; simp
  have d2 : wB.cell? ⟨W.heap.size, 2, none⟩ = some (.int .i64 n) := by rw [hwB]; simp
  rw [← hwB] at ha
  have d3 : wB.cell? ⟨b1, 0, none⟩ = some uc := (ha.cell (p := ⟨b1, 0, none⟩) hl1).trans h1
  have hlt : W.heap.size < wB.heap.size := World.block_lt_of_cell? wB _ d0
  have ka := Lib.hid (KA.out wB.drew ha.drew)
  have HA := Lib.hid ha
  obtain ⟨x, cx, rfl, _, _⟩ := hr
  obtain ⟨y, cy, rfl, _, _⟩ := hc
  generalize hgl : gc.length = lg at *
  generalize hcl : code.length = lc at *
  have hb1 : b1 < wB.heap.size := by omega
  have HL := Lib.hid hlt
  have HL1 := Lib.hid hb1
  clear KA ok1 ok2 hH q1 q2 ha hgl hcl ly l1 l2 hcm hle
  go_enter Try.func71, Try.ntmps71
  go_wp2_with fail
  rw [← hwB]
  clear hwB
  by_cases hsr : s = r
  · subst hsr
    by_cases hqn : q = n
    · subst hqn
      have HR2 : Hid (res = false) := by show _ = _; rw [HR.out]; simp
      clear HR
      go_region_held3 (fun w' => w'.cell? ⟨W.heap.size, 0, none⟩ = some (.slice x lg cx) ∧ w'.cell? ⟨W.heap.size, 1, none⟩ = some (.int .i64 s) ∧ w'.cell? ⟨W.heap.size, 2, none⟩ = some (.int .i64 q) ∧ w'.cell? ⟨b1, 0, none⟩ = some (.slice y lc cy))
        (first | go_keep | (go_split_ands; exact ⟨(hb2.cell (p := ⟨W.heap.size, 0, none⟩) HL.out).trans d0, (hb2.cell (p := ⟨W.heap.size, 1, none⟩) HL.out).trans d1, (hb2.cell (p := ⟨W.heap.size, 2, none⟩) HL.out).trans d2, (hb2.cell (p := ⟨b1, 0, none⟩) HL1.out).trans d3⟩))
        (first | (go_at_call 44; (with_reducible refine ka.out.mono ?_); rintro e w2 ⟨rfl, hb2⟩))
      go_wp2_with fail
      go_ret
      exact ⟨ret_bool HR2.out.symm, HA.out.drew.trans (hb2.mono HA.out.size)⟩
    · have hqn2 : (q == n) = false := by rw [beq_eq_false_iff_ne]; exact hqn
      have HR2 : Hid (res = true) := by show _ = _; rw [HR.out]; simp [hqn]
      clear HR
      go_region_held3 (fun w' => w'.cell? ⟨W.heap.size, 0, none⟩ = some (.slice x lg cx) ∧ w'.cell? ⟨W.heap.size, 1, none⟩ = some (.int .i64 s) ∧ w'.cell? ⟨W.heap.size, 2, none⟩ = some (.int .i64 n) ∧ w'.cell? ⟨b1, 0, none⟩ = some (.slice y lc cy))
        (first | go_keep | (go_split_ands; exact ⟨(hb2.cell (p := ⟨W.heap.size, 0, none⟩) HL.out).trans d0, (hb2.cell (p := ⟨W.heap.size, 1, none⟩) HL.out).trans d1, (hb2.cell (p := ⟨W.heap.size, 2, none⟩) HL.out).trans d2, (hb2.cell (p := ⟨b1, 0, none⟩) HL1.out).trans d3⟩))
        (first | (go_at_call 44; (with_reducible refine ka.out.mono ?_); rintro e w2 ⟨rfl, hb2⟩))
      go_wp2_with fail
      go_ret
      exact ⟨ret_bool HR2.out.symm, HA.out.drew.trans (hb2.mono HA.out.size)⟩
  · have hsr2 : (s == r) = false := by rw [beq_eq_false_iff_ne]; exact hsr
    have HR2 : Hid (res = true) := by show _ = _; rw [HR.out]; simp [hsr]
    clear HR
    go_region_held3 (fun w' => w'.cell? ⟨W.heap.size, 0, none⟩ = some (.slice x lg cx) ∧ w'.cell? ⟨W.heap.size, 1, none⟩ = some (.int .i64 r) ∧ w'.cell? ⟨W.heap.size, 2, none⟩ = some (.int .i64 n) ∧ w'.cell? ⟨b1, 0, none⟩ = some (.slice y lc cy))
      (first | go_keep | (go_split_ands; exact ⟨(hb2.cell (p := ⟨W.heap.size, 0, none⟩) HL.out).trans d0, (hb2.cell (p := ⟨W.heap.size, 1, none⟩) HL.out).trans d1, (hb2.cell (p := ⟨W.heap.size, 2, none⟩) HL.out).trans d2, (hb2.cell (p := ⟨b1, 0, none⟩) HL1.out).trans d3⟩))
      (first | (go_at_call 44; (with_reducible refine ka.out.mono ?_); rintro e w2 ⟨rfl, hb2⟩))
    go_wp2_with fail
    go_ret
    exact ⟨ret_bool HR2.out.symm, HA.out.drew.trans (hb2.mono HA.out.size)⟩

set_option maxHeartbeats 2000000 in
theorem idxG_fit (P : Gs → Bool) (v : Value) (gs : List Gs) (b1 : Nat) (w : World) (h : RdG w v gs)
    (hk : ∀ W u g, Below w.heap.size w W → Rd W u g.code → (∃ k, k < gs.length ∧ g = gs.getD k gNil) → Calls Try.prog 71 #[.agg #[u, .int .i64 g.right, .int .i64 g.near], .pointer (some ⟨b1, 0, none⟩)] W (BelRet (P g) W)) :
    Calls Try.prog 69 #[v, .func (Fn.func 71) #[] #[.pointer (some ⟨b1, 0, none⟩)]] w (IdxPost (gs.any P) w) := by
  obtain ⟨a, ca, rfl, hm, ha⟩ := h
  unfold maxLen at hm
  have HA := Lib.hid ha
  have HK := Lib.hid hk
  clear ha hk
  generalize hn : gs.length = n at *
  have HN := Lib.hid hn
  clear hn
  go_enter Try.func69, Try.ntmps69
  go_wp2_with fail
  go_loopw [8] (fun q wr => ∃ k : Nat, k ≤ n ∧ q = .int .i64 k ∧ Hid (∀ j, j < k → P (gs.getD j gNil) = false) ∧ Below w.heap.size w wr) (fun q _ => n - (intOf q).toNat)
  case atStart => exact ⟨0, by omega, rfl, fun j hj => by omega, Below.refl _ _⟩
  case round =>
    obtain ⟨k, hk, rfl, HP, hbel⟩ := hrel
    by_cases hlt : k < n
    · have hne : gs ≠ [] := by intro e; have := HN.out; rw [e] at this; simp at this; omega
      obtain ⟨g, off, rfl, hc⟩ := HA.out hne
      obtain ⟨u, h1, hru, h2, h3⟩ := hc k hlt
      have hg := World.block_lt_of_cell? w _ h1
      have c1 := (hbel.cell (p := ⟨g, off + k * 3, none⟩) hg).trans h1
      have c2 := (hbel.cell (p := ⟨g, off + k * 3 + 1, none⟩) hg).trans h2
      have c3 := (hbel.cell (p := ⟨g, off + k * 3 + 2, none⟩) hg).trans h3
      have K := Lib.hid (HK.out wr u (gs.getD k gNil) hbel (hru.below hbel) ⟨k, hlt, rfl⟩)
      obtain ⟨x, cx, rfl, _, _⟩ := hru
      have HPK : Hid (∀ b, P (gs.getD k gNil) = b → b = false → ∀ j, j < k + 1 → P (gs.getD j gNil) = false) := by
        intro b hb hb2 j hj
        by_cases e : j = k
        · rw [e, hb, hb2]
        · exact HP.out j (by omega)
      have HHit : Hid (∀ b, P (gs.getD k gNil) = b → b = true → gs.any P = true) := by
        intro b hb hb2
        exact any_hit (by rw [HN.out]; exact hlt) (hb.trans hb2)
      generalize (gs.getD k gNil).right = r at *
      generalize (gs.getD k gNil).near = q at *
      generalize (gs.getD k gNil).code.length = lk at *
      generalize P (gs.getD k gNil) = b at *
      have HPK2 : Hid (b = false → ∀ j, j < k + 1 → P (gs.getD j gNil) = false) := HPK.out b rfl
      have HHit2 : Hid (b = true → gs.any P = true) := HHit.out b rfl
      have HB := Lib.hid hbel
      have hi0 : (0 : Int) ≤ (k : Int) := by omega
      have hi1 : (k : Int) < (n : Int) := by omega
      clear hc hne h1 h2 h3 HPK HHit HP hbel
      go_wp2_with fail
      refine K.out.mono ?_
      rintro e w1 ⟨rfl, hb1⟩
      have HB1 := Lib.hid (HB.out.trans (hb1.mono HB.out.size))
      clear hb1 K
      cases b with
      | false =>
        have HPK3 := Lib.hid (HPK2.out rfl)
        go_wp2_with fail
        go_roundw
        case rel => exact ⟨k + 1, by omega, by go_num, HPK3.out, HB1.out⟩
        case measure => simp [intOf]; omega
      | true =>
        have HHit3 := Lib.hid (HHit2.out rfl)
        go_wp2_with fail
        go_ret
        exact ⟨⟨k, rfl, by rw [HHit3.out]; simp⟩, HB1.out⟩
    · have hkn : k = n := by omega
      have HM : Hid (gs.any P = false) := any_miss (fun j hj => HP.out j (by rw [hkn, ← HN.out]; exact hj))
      have HB := Lib.hid hbel
      clear HP hbel hkn
      go_wp2_with fail
      go_ret
      exact ⟨⟨-1, rfl, by rw [HM.out]; rfl⟩, HB.out⟩

theorem containsG_fit (P : Gs → Bool) (v : Value) (gs : List Gs) (b1 : Nat) (w : World) (h : RdG w v gs)
    (hk : ∀ W u g, Below w.heap.size w W → Rd W u g.code → (∃ k, k < gs.length ∧ g = gs.getD k gNil) → Calls Try.prog 71 #[.agg #[u, .int .i64 g.right, .int .i64 g.near], .pointer (some ⟨b1, 0, none⟩)] W (BelRet (P g) W)) :
    Calls Try.prog 51 #[v, .func (Fn.func 71) #[] #[.pointer (some ⟨b1, 0, none⟩)]] w (BelRet (gs.any P) w) := by
  have k := Lib.hid (idxG_fit P v gs b1 w h hk)
  clear h hk
  go_enter Try.func51, Try.ntmps51
  go_wp2_with fail
  refine k.out.mono ?_
  rintro e w1 ⟨⟨i, rfl, hi⟩, hb⟩
  have HI := Lib.hid hi
  have HB := Lib.hid hb
  clear hi hb
  go_wp2_with fail
  go_ret
  exact ⟨ret_bool HI.out, HB.out⟩


set_option maxHeartbeats 1000000 in
theorem fits_any (p c : Int) (uc v : Value) (code : List Int) (gs : List Gs) (w : World) (hc : Rd w uc code) (hg : RdG w v gs) (ok1 : COk p c code = true) (ok2 : ∀ k, k < gs.length → COk p c (gs.getD k gNil).code = true) :
    Calls Try.prog 56 #[uc, v] w (BelRet (Fit p c gs code) w) := by
  have ha : Below w.heap.size w (w.alloc (.cells #[uc] 22)) := (Below.refl _ _).alloc (Nat.le_refl _) _
  have c1 : (w.alloc (.cells #[uc] 22)).cell? ⟨w.heap.size, 0, none⟩ = some uc := by simp
  have K := Lib.hid (containsG_fit (fun g => !Hit p c code g) v gs w.heap.size (w.alloc (.cells #[uc] 22)) (hg.below ha) (fun W u g b hr ⟨k, hk, e⟩ =>
    fitno_any p c w.heap.size uc u code g W ((b.cell (p := ⟨w.heap.size, 0, none⟩) (World.block_lt_of_cell? _ _ c1)).trans c1) ((hc.below ha).below b) hr ok1 (by rw [e]; exact ok2 k hk)))
  rw [any_not_hit] at K
  have HA := Lib.hid ha
  obtain ⟨x, cx, rfl, _, _⟩ := hc
  obtain ⟨a, ca, rfl, _, _⟩ := hg
  generalize Fit p c gs code = b at *
  clear ok1 ok2 ha c1
  generalize code.length = lc at *
  go_enter Try.func56, Try.ntmps56
  go_wp2_with fail
  refine K.out.mono ?_
  rintro e w1 ⟨rfl, hb⟩
  have HB := Lib.hid (HA.out.trans (hb.mono HA.out.size))
  clear hb
  go_wp2_with fail
  go_ret
  exact ⟨ret_bool (by simp), HB.out⟩

set_option maxHeartbeats 1000000 in
theorem drop_any (p c : Int) (b1 : Nat) (uc v : Value) (code : List Int) (gs : List Gs) (w : World) (h1 : w.cell? ⟨b1, 0, none⟩ = some v) (hc : Rd w uc code) (hg : RdG w v gs) (ok1 : COk p c code = true) (ok2 : ∀ k, k < gs.length → COk p c (gs.getD k gNil).code = true) :
    Calls Try.prog 55 #[uc, .pointer (some ⟨b1, 0, none⟩)] w (BelRet (!Fit p c gs code) w) := by
  have K := Lib.hid (fits_any p c uc v code gs w hc hg ok1 ok2)
  obtain ⟨x, cx, rfl, _, _⟩ := hc
  obtain ⟨a, ca, rfl, _, _⟩ := hg
  generalize Fit p c gs code = b at *
  clear ok1 ok2
  generalize code.length = lc at *
  generalize gs.length = lg at *
  go_enter Try.func55, Try.ntmps55
  go_wp2_with fail
  refine K.out.mono ?_
  rintro e w1 ⟨rfl, hb⟩
  have HB := Lib.hid hb
  clear hb
  go_wp2_with fail
  go_ret
  exact ⟨rfl, HB.out⟩
end Go.Proofs.Ytkkjgcpkimjfkaa
