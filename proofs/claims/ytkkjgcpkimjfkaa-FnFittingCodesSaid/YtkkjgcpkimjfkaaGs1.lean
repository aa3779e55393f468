/- GuessesOk, both. -/
import Derived.Test.YtkkjgcpkimjfkaaProg
import Derived.Test.YtkkjgcpkimjfkaaGs0
import Derived.Test.YtkkjgcpkimjfkaaCodes1
namespace Go.Proofs.Ytkkjgcpkimjfkaa
open Go.RowKit

/-- a guess is wrong -/
def GBad (p c : Int) (g : Gs) : Bool := !(COk p c g.code) || (decide (g.right < 0) || decide (g.near < 0))
def GOk (p c : Int) (gs : List Gs) : Bool := CsOk p c && (decide (gs.length ≤ 9) && !gs.any (GBad p c))

def BelRet (b : Bool) (w : World) (e : Ending) (w' : World) : Prop := e = .returned (.bool b) ∧ Below w.heap.size w w'

theorem any_hit {P : Gs → Bool} {gs : List Gs} {k : Nat} (hk : k < gs.length) (h : P (gs.getD k gNil) = true) : gs.any P = true := by
  rw [List.any_eq_true]
  exact ⟨_, by rw [List.getD_eq_getElem?_getD, List.getElem?_eq_getElem hk]; exact List.getElem_mem hk, h⟩
theorem any_miss {P : Gs → Bool} {gs : List Gs} (h : ∀ k, k < gs.length → P (gs.getD k gNil) = false) : gs.any P = false := by
  rw [List.any_eq_false]
  intro x hx
  obtain ⟨j, hj, rfl⟩ := List.mem_iff_getElem.1 hx
  have := h j hj
  rw [List.getD_eq_getElem?_getD, List.getElem?_eq_getElem hj] at this
  simpa using this

set_option maxHeartbeats 1000000 in
theorem gbad_any (p c : Int) (b1 b2 : Nat) (u : Value) (g : Gs) (W : World) (h1 : W.cell? ⟨b1, 0, none⟩ = some (.int .i64 p)) (h2 : W.cell? ⟨b2, 0, none⟩ = some (.int .i64 c)) (hr : Rd W u g.code) :
    Calls Try.prog 50 #[.agg #[u, .int .i64 g.right, .int .i64 g.near], .pointer (some ⟨b1, 0, none⟩), .pointer (some ⟨b2, 0, none⟩)] W (BelRet (GBad p c g) W) := by
  obtain ⟨code, r, n⟩ := g
  simp only at hr ⊢
  have ha : Below W.heap.size W (W.alloc (.cells #[u, .int .i64 r, .int .i64 n] 55)) := (Below.refl _ _).alloc (Nat.le_refl _) _
  have k := Lib.hid (impl_CodeOk p c u code _ (hr.below ha))
  have HA := Lib.hid ha
  have hl1 : b1 < W.heap.size := World.block_lt_of_cell? W _ h1
  have hl2 : b2 < W.heap.size := World.block_lt_of_cell? W _ h2
  obtain ⟨x, cx, rfl, _, _⟩ := hr
  generalize hres : GBad p c ⟨code, r, n⟩ = res
  have HR := Lib.hid hres
  generalize code.length = lk at *
  clear ha hres
  obtain ⟨wB, hwB⟩ : ∃ wB, wB = W.alloc (.cells #[.slice x lk cx, .int .i64 r, .int .i64 n] 55) := ⟨_, rfl⟩
  rw [← hwB] at k HA
  have d0 : wB.cell? ⟨W.heap.size, 0, none⟩ = some (.slice x lk cx) := by rw [hwB]; simp
  have d1 : wB.cell? ⟨W.heap.size, 1, none⟩ = some (.int .i64 r) := by rw [hwB]; simp
  have d2 : wB.cell? ⟨W.heap.size, 2, none⟩ = some (.int .i64 n) := by rw [hwB]; simp
  have d3 : wB.cell? ⟨b1, 0, none⟩ = some (.int .i64 p) := (HA.out.cell (p := ⟨b1, 0, none⟩) hl1).trans h1
  have d4 : wB.cell? ⟨b2, 0, none⟩ = some (.int .i64 c) := (HA.out.cell (p := ⟨b2, 0, none⟩) hl2).trans h2
  have hlt : W.heap.size < wB.heap.size := World.block_lt_of_cell? wB _ d0
  cases hc : COk p c code with
  | false =>
    rw [hc] at k
    have HRT : Hid (res = true) := by show _ = _; rw [← HR.out]; simp [GBad, hc]
    clear hc HR
    go_enter Try.func50, Try.ntmps50
    go_wp2_with fail
    rw [← hwB]
    go_wp2_with fail
    refine k.out.mono ?_
    rintro e w1 ⟨rfl, hb1⟩
    have HB := Lib.hid (HA.out.trans (hb1.mono HA.out.size))
    clear hb1
    go_wp2_with fail
    go_ret
    exact ⟨ret_bool HRT.out.symm, HB.out⟩
  | true =>
    rw [hc] at k
    have HRT : Hid (res = (decide (r < 0) || decide (n < 0))) := by show _ = _; rw [← HR.out]; simp [GBad, hc]
    clear hc HR
    go_enter Try.func50, Try.ntmps50
    go_wp2_with fail
    rw [← hwB]
    go_wp2_with fail
    refine k.out.mono ?_
    rintro e w1 ⟨rfl, hb1⟩
    have HB := Lib.hid (HA.out.trans (hb1.mono HA.out.size))
    have e1 : w1.cell? ⟨W.heap.size, 1, none⟩ = some (.int .i64 r) := (hb1.cell (p := ⟨W.heap.size, 1, none⟩) hlt).trans d1
    have e2 : w1.cell? ⟨W.heap.size, 2, none⟩ = some (.int .i64 n) := (hb1.cell (p := ⟨W.heap.size, 2, none⟩) hlt).trans d2
    clear hb1 hwB d0 d1 d2 d3 d4
    by_cases hr0 : r < 0
    · have HRT2 : Hid (res = true) := by show _ = _; rw [HRT.out]; simp [hr0]
      go_wp2_with fail
      go_ret
      exact ⟨ret_bool HRT2.out.symm, HB.out⟩
    · by_cases hn0 : n < 0
      · have HRT2 : Hid (res = true) := by show _ = _; rw [HRT.out]; simp [hn0]
        go_wp2_with fail
        go_ret
        exact ⟨ret_bool HRT2.out.symm, HB.out⟩
      · go_wp2_with fail
        go_ret
        exact ⟨ret_bool HRT.out.symm, HB.out⟩

def IdxPost (b : Bool) (w : World) (e : Ending) (w' : World) : Prop := (∃ k : Int, e = .returned (.int .i64 k) ∧ decide (0 ≤ k) = b) ∧ Below w.heap.size w w'

set_option maxHeartbeats 2000000 in
theorem idxG_bad (P : Gs → Bool) (v : Value) (gs : List Gs) (b1 b2 : Nat) (w : World) (h : RdG w v gs)
    (hk : ∀ W u g, Below w.heap.size w W → Rd W u g.code → Calls Try.prog 50 #[.agg #[u, .int .i64 g.right, .int .i64 g.near], .pointer (some ⟨b1, 0, none⟩), .pointer (some ⟨b2, 0, none⟩)] W (BelRet (P g) W)) :
    Calls Try.prog 69 #[v, .func (Fn.func 50) #[] #[.pointer (some ⟨b1, 0, none⟩), .pointer (some ⟨b2, 0, none⟩)]] w (IdxPost (gs.any P) w) := by
  obtain ⟨a, ca, rfl, hm, ha⟩ := h
  unfold maxLen at hm
  have HA := Lib.hid ha
  have HK := Lib.hid hk
  clear ha hk
  generalize hn : gs.length = n at *
  have HN := Lib.hid hn
  clear hn
  go_enter Try.func69, Try.ntmps69
  go_wp2_with fail
  go_loopw [8] (fun q wr => ∃ k : Nat, k ≤ n ∧ q = .int .i64 k ∧ Hid (∀ j, j < k → P (gs.getD j gNil) = false) ∧ Below w.heap.size w wr) (fun q _ => n - (intOf q).toNat)
  case atStart => exact ⟨0, by omega, rfl, fun j hj => by omega, Below.refl _ _⟩
  case round =>
    obtain ⟨k, hk, rfl, HP, hbel⟩ := hrel
    by_cases hlt : k < n
    · have hne : gs ≠ [] := by intro e; have := HN.out; rw [e] at this; simp at this; omega
      obtain ⟨g, off, rfl, hc⟩ := HA.out hne
      obtain ⟨u, h1, hru, h2, h3⟩ := hc k hlt
      have hg := World.block_lt_of_cell? w _ h1
      have c1 := (hbel.cell (p := ⟨g, off + k * 3, none⟩) hg).trans h1
      have c2 := (hbel.cell (p := ⟨g, off + k * 3 + 1, none⟩) hg).trans h2
      have c3 := (hbel.cell (p := ⟨g, off + k * 3 + 2, none⟩) hg).trans h3
      have K := Lib.hid (HK.out wr u (gs.getD k gNil) hbel (hru.below hbel))
      obtain ⟨x, cx, rfl, _, _⟩ := hru
      have HPK : Hid (∀ b, P (gs.getD k gNil) = b → b = false → ∀ j, j < k + 1 → P (gs.getD j gNil) = false) := by
        intro b hb hb2 j hj
        by_cases e : j = k
        · rw [e, hb, hb2]
        · exact HP.out j (by omega)
      have HHit : Hid (∀ b, P (gs.getD k gNil) = b → b = true → gs.any P = true) := by
        intro b hb hb2
        exact any_hit (by rw [HN.out]; exact hlt) (hb.trans hb2)
      generalize (gs.getD k gNil).right = r at *
      generalize (gs.getD k gNil).near = q at *
      generalize (gs.getD k gNil).code.length = lk at *
      generalize P (gs.getD k gNil) = b at *
      have HPK2 : Hid (b = false → ∀ j, j < k + 1 → P (gs.getD j gNil) = false) := HPK.out b rfl
      have HHit2 : Hid (b = true → gs.any P = true) := HHit.out b rfl
      have HB := Lib.hid hbel
      have hi0 : (0 : Int) ≤ (k : Int) := by omega
      have hi1 : (k : Int) < (n : Int) := by omega
      clear hc hne h1 h2 h3 HPK HHit HP hbel
      go_wp2_with fail
      refine K.out.mono ?_
      rintro e w1 ⟨rfl, hb1⟩
      have HB1 := Lib.hid (HB.out.trans (hb1.mono HB.out.size))
      clear hb1 K
      cases b with
      | false =>
        have HPK3 := Lib.hid (HPK2.out rfl)
        go_wp2_with fail
        go_roundw
        case rel => exact ⟨k + 1, by omega, by go_num, HPK3.out, HB1.out⟩
        case measure => simp [intOf]; omega
      | true =>
        have HHit3 := Lib.hid (HHit2.out rfl)
        go_wp2_with fail
        go_ret
        exact ⟨⟨k, rfl, by rw [HHit3.out]; simp⟩, HB1.out⟩
    · have hkn : k = n := by omega
      have HM : Hid (gs.any P = false) := any_miss (fun j hj => HP.out j (by rw [hkn, ← HN.out]; exact hj))
      have HB := Lib.hid hbel
      clear HP hbel hkn
      go_wp2_with fail
      go_ret
      exact ⟨⟨-1, rfl, by rw [HM.out]; rfl⟩, HB.out⟩

theorem containsG_bad (P : Gs → Bool) (v : Value) (gs : List Gs) (b1 b2 : Nat) (w : World) (h : RdG w v gs)
    (hk : ∀ W u g, Below w.heap.size w W → Rd W u g.code → Calls Try.prog 50 #[.agg #[u, .int .i64 g.right, .int .i64 g.near], .pointer (some ⟨b1, 0, none⟩), .pointer (some ⟨b2, 0, none⟩)] W (BelRet (P g) W)) :
    Calls Try.prog 51 #[v, .func (Fn.func 50) #[] #[.pointer (some ⟨b1, 0, none⟩), .pointer (some ⟨b2, 0, none⟩)]] w (BelRet (gs.any P) w) := by
  have k := Lib.hid (idxG_bad P v gs b1 b2 w h hk)
  clear h hk
  go_enter Try.func51, Try.ntmps51
  go_wp2_with fail
  refine k.out.mono ?_
  rintro e w1 ⟨⟨i, rfl, hi⟩, hb⟩
  have HI := Lib.hid hi
  have HB := Lib.hid hb
  clear hi hb
  go_wp2_with fail
  go_ret
  exact ⟨ret_bool HI.out, HB.out⟩

set_option maxHeartbeats 1000000 in
theorem impl_GuessesOk (p c : Int) (v : Value) (gs : List Gs) (w : World) (h : RdG w v gs) :
    Calls Try.prog 27 #[.int .i64 p, .int .i64 c, v] w (BelRet (GOk p c gs) w) := by
  obtain ⟨w2, hw2⟩ : ∃ w2, w2 = (w.alloc (.cells #[.int .i64 p] 3)).alloc (.cells #[.int .i64 c] 3) := ⟨_, rfl⟩
  have hb2 : Below w.heap.size w w2 := by rw [hw2]; exact ((Below.refl _ _).alloc (Nat.le_refl _) _).alloc (by simp) _
  have c1 : w2.cell? ⟨w.heap.size, 0, none⟩ = some (.int .i64 p) := by rw [hw2]; simp
  have c2 : w2.cell? ⟨w.heap.size + 1, 0, none⟩ = some (.int .i64 c) := by rw [hw2]; exact (World.cell?_alloc_at _ _ _ _ (by simp)).trans rfl
  have KC := Lib.hid (containsG_bad (GBad p c) v gs w.heap.size (w.heap.size + 1) w2 (h.below hb2) (fun W u g b hr =>
    gbad_any p c _ _ u g W ((b.cell (p := ⟨w.heap.size, 0, none⟩) (World.block_lt_of_cell? w2 _ c1)).trans c1) ((b.cell (p := ⟨w.heap.size + 1, 0, none⟩) (World.block_lt_of_cell? w2 _ c2)).trans c2) hr))
  have kc := Lib.hid (impl_codes p c)
  obtain ⟨a, ca, rfl, hm, _⟩ := h
  have HB2 := Lib.hid hb2
  unfold maxLen at hm
  clear hb2
  cases hcs : CsOk p c with
  | false =>
    have HR : Hid (GOk p c gs = false) := by show _ = _; simp [GOk, hcs]
    rw [hcs] at kc
    clear hcs
    go_enter Try.func27, Try.ntmps27
    go_wp2_with (first | (go_at_call 42; (with_reducible refine (kc.out _).mono ?_); rintro e w' ⟨rfl, rfl⟩))
    go_ret
    exact ⟨ret_bool HR.out.symm, by rw [← hw2]; exact HB2.out⟩
  | true =>
    rw [hcs] at kc
    by_cases hl : gs.length ≤ 9
    · have HR : Hid (GOk p c gs = !gs.any (GBad p c)) := by show _ = _; simp [GOk, hcs, hl]
      have hli : (gs.length : Int) ≤ 9 := by omega
      generalize gs.any (GBad p c) = bb at *
      clear hcs
      go_enter Try.func27, Try.ntmps27
      go_wp2_with (first | (go_at_call 42; (with_reducible refine (kc.out _).mono ?_); rintro e w' ⟨rfl, rfl⟩))
      rw [← hw2]
      refine KC.out.mono ?_
      rintro e w3 ⟨rfl, hb3⟩
      have HB3 := Lib.hid (HB2.out.trans (hb3.mono HB2.out.size))
      clear hb3
      go_wp2_with fail
      go_ret
      exact ⟨ret_bool HR.out.symm, HB3.out⟩
    · have HR : Hid (GOk p c gs = false) := by show _ = _; simp [GOk, hl]
      have hli : decide ((gs.length : Int) ≤ 9) = false := by simp; omega
      clear hcs
      go_enter Try.func27, Try.ntmps27
      go_wp2_with (first | (go_at_call 42; (with_reducible refine (kc.out _).mono ?_); rintro e w' ⟨rfl, rfl⟩))
      go_ret
      exact ⟨ret_bool HR.out.symm, by rw [← hw2]; exact HB2.out⟩
end Go.Proofs.Ytkkjgcpkimjfkaa
