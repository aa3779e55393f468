/- AnswerTo of the reference model; the plain counts. -/
import Derived.Test.YtkkjgcpkimjfkaaProg
import Derived.Test.YtkkjgcpkimjfkaaCodes1
namespace Go.Proofs.Ytkkjgcpkimjfkaa
open Go.RowKit

/-- how many of the first k numbers are c -/
def cnt (xs : List Int) (c : Nat) : Nat → Nat
  | 0 => 0
  | k + 1 => cnt xs c k + if xs.getD k 0 = (c : Int) then 1 else 0
/-- at how many of the first k places both are alike -/
def eqs (xs ys : List Int) : Nat → Nat
  | 0 => 0
  | k + 1 => eqs xs ys k + if xs.getD k 0 = ys.getD k 0 then 1 else 0
/-- how much the first numbers are had in common -/
def com (xs ys : List Int) (n : Nat) : Nat → Nat
  | 0 => 0
  | c + 1 => com xs ys n c + min (cnt xs c n) (cnt ys c n)
theorem cnt_le (xs : List Int) (c : Nat) : ∀ k, cnt xs c k ≤ k
  | 0 => Nat.le_refl _
  | k + 1 => by have := cnt_le xs c k; rw [cnt]; split <;> omega
theorem eqs_le (xs ys : List Int) : ∀ k, eqs xs ys k ≤ k
  | 0 => Nat.le_refl _
  | k + 1 => by have := eqs_le xs ys k; rw [eqs]; split <;> omega
theorem com_le (xs ys : List Int) (n : Nat) : ∀ c, com xs ys n c ≤ n * c
  | 0 => Nat.le_refl _
  | c + 1 => by have h1 := com_le xs ys n c; have h2 := cnt_le xs c n; rw [com, Nat.mul_succ]; omega
theorem cnt_zero {xs : List Int} {c : Nat} : ∀ {k}, (∀ j, j < k → xs.getD j 0 ≠ (c : Int)) → cnt xs c k = 0
  | 0, _ => rfl
  | k + 1, h => by rw [cnt, cnt_zero (fun j hj => h j (by omega)), if_neg (h k (by omega))]
theorem com_stop {xs ys : List Int} {n C : Nat} (h : ∀ j, j < n → xs.getD j 0 < (C : Int)) : ∀ c, C ≤ c → com xs ys n c = com xs ys n C
  | 0, hc => by have : C = 0 := by omega
                subst this; rfl
  | c + 1, hc => by
    by_cases e : C = c + 1
    · rw [e]
    · rw [com, com_stop h c (by omega), cnt_zero (fun j hj => by have := h j hj; omega)]
      simp

/-- what AnswerTo returns -/
def RA (p c : Int) (xs ys : List Int) : Int := if COk p c xs = true ∧ COk p c ys = true then (eqs xs ys xs.length : Int) else -1
def RB (p c : Int) (xs ys : List Int) : Int := if COk p c xs = true ∧ COk p c ys = true then (com xs ys xs.length 5 : Int) - eqs xs ys xs.length else -1
theorem COk_is {p c : Int} {xs : List Int} (h : COk p c xs = true) : (1 ≤ p ∧ p ≤ 3) ∧ (1 ≤ c ∧ c ≤ 5) ∧ (xs.length : Int) = p ∧ ∀ j, j < xs.length → 0 ≤ xs.getD j 0 ∧ xs.getD j 0 < c := by
  unfold COk at h
  simp only [Bool.and_eq_true, decide_eq_true_eq] at h
  obtain ⟨h1, h2, h3⟩ := h
  have h4 := of_decide_eq_true h1
  refine ⟨h4.1, h4.2, h2, fun j hj => ?_⟩
  have := AllB_getD h3 j hj
  omega

def ANPost (r q : Int) (w : World) (e : Ending) (w' : World) : Prop := e = .returned (.tuple #[.int .i64 r, .int .i64 q]) ∧ Below w.heap.size w w'

set_option maxHeartbeats 2000000 in
theorem spec_AnswerTo (p c : Int) (va vb : Value) (xs ys : List Int) (w : World) (ha : Rd w va xs) (hb : Rd w vb ys) :
    Calls Try.prog 17 #[.int .i64 p, .int .i64 c, va, vb] w (ANPost (RA p c xs ys) (RB p c xs ys) w) := by
  have k1 := Lib.hid (spec_CodeOk p c va xs w ha)
  have k2 := Lib.hid (spec_CodeOk p c vb ys w hb)
  cases h1 : COk p c xs with
  | false =>
    rw [h1] at k1
    have e1 : RA p c xs ys = -1 := if_neg (by rw [h1]; simp)
    have e2 : RB p c xs ys = -1 := if_neg (by rw [h1]; simp)
    rw [e1, e2]
    clear e1 e2 h1 k2 ha hb
    go_enter Try.func17, Try.ntmps17
    go_wp2_with (first | (go_at_call 13; (with_reducible refine k1.out.mono ?_); rintro e w' ⟨rfl, rfl⟩))
    go_ret2
    exact ⟨rfl, Below.refl _ _⟩
  | true =>
    cases h2 : COk p c ys with
    | false =>
      rw [h1] at k1
      rw [h2] at k2
      have e1 : RA p c xs ys = -1 := if_neg (by rw [h2]; simp)
      have e2 : RB p c xs ys = -1 := if_neg (by rw [h2]; simp)
      rw [e1, e2]
      clear e1 e2 h1 h2 ha hb
      go_enter Try.func17, Try.ntmps17
      go_wp2_with (first
        | (go_at_call 13; (with_reducible refine k1.out.mono ?_); rintro e w' ⟨rfl, rfl⟩)
        | (go_at_call 13; (with_reducible refine k2.out.mono ?_); rintro e w' ⟨rfl, rfl⟩))
      go_ret2
      exact ⟨rfl, Below.refl _ _⟩
    | true =>
      rw [h1] at k1
      rw [h2] at k2
      obtain ⟨⟨p1, p2⟩, ⟨c1, c2⟩, l1, b1⟩ := COk_is h1
      obtain ⟨_, _, l2, b2⟩ := COk_is h2
      have e1 : RA p c xs ys = eqs xs ys xs.length := if_pos ⟨h1, h2⟩
      have e2 : RB p c xs ys = (com xs ys xs.length 5 : Int) - eqs xs ys xs.length := if_pos ⟨h1, h2⟩
      rw [e1, e2]
      clear e1 e2 h1 h2
      obtain ⟨C, rfl⟩ := Int.eq_ofNat_of_zero_le (show 0 ≤ c by omega)
      obtain ⟨n, hn⟩ : ∃ n, n = xs.length := ⟨_, rfl⟩
      have hny : ys.length = n := by omega
      rw [com_stop (fun j hj => (b1 j hj).2) 5 (by omega), ← hn]
      obtain rfl : p = (n : Int) := by omega
      obtain ⟨a, ca, rfl, _, ho⟩ := ha
      obtain ⟨g, off, rfl, hcell⟩ := ho (by intro e; rw [e] at hn; simp at hn; omega)
      obtain ⟨a', ca', rfl, _, ho'⟩ := hb
      obtain ⟨g', off', rfl, hcell'⟩ := ho' (by intro e; rw [e] at hny; simp at hny; omega)
      rw [← hn] at hcell b1 k1 ⊢
      rw [hny] at hcell' b2 k2 ⊢
      have HX := Lib.hid hcell
      have HY := Lib.hid hcell'
      have B1 := Lib.hid b1
      have B2 := Lib.hid b2
      clear ho ho' hcell hcell' b1 b2 l1 l2 hn hny
      go_enter Try.func17, Try.ntmps17
      go_wp2_with (first
        | (go_at_call 13; (with_reducible refine k1.out.mono ?_); rintro e w' ⟨rfl, rfl⟩)
        | (go_at_call 13; (with_reducible refine k2.out.mono ?_); rintro e w' ⟨rfl, rfl⟩))
      clear k1 k2
      go_loopw [10, 12] (fun vr vk wr => ∃ k : Nat, k ≤ n ∧ vr = .int .i64 (eqs xs ys k) ∧ vk = .int .i64 k ∧ Below w.heap.size w wr) (fun _ vk _ => n - (intOf vk).toNat)
      case atStart => exact ⟨0, by omega, rfl, rfl, Below.refl _ _⟩
      case round =>
        obtain ⟨k, hk, rfl, rfl, hbr⟩ := hrel
        by_cases hlt : k < n
        · have hcx := (hbr.cell (p := ⟨g, off + k, none⟩) (World.block_lt_of_cell? w _ (HX.out k hlt))).trans (HX.out k hlt)
          have hcy := (hbr.cell (p := ⟨g', off' + k, none⟩) (World.block_lt_of_cell? w _ (HY.out k hlt))).trans (HY.out k hlt)
          have hb := eqs_le xs ys k
          have HN : Hid (eqs xs ys (k + 1) = eqs xs ys k + if xs.getD k 0 = ys.getD k 0 then 1 else 0) := rfl
          have hi0 : (0 : Int) ≤ (k : Int) := by omega
          have hi1 : (k : Int) < (n : Int) := by omega
          generalize eqs xs ys k = E at *
          generalize xs.getD k 0 = x at *
          generalize ys.getD k 0 = y at *
          go_wp2_with fail
          go_quiet (fail)
          generalize hw0 : wr.drewN _ = w2
          have hb2 : Below w.heap.size w w2 := by rw [← hw0]; exact below_drewN hbr _
          clear hw0 hcx hcy hbr
          by_cases hxy : x = y
          · subst hxy
            go_wp2_with fail
            go_roundw
            case rel => exact ⟨k + 1, by omega, by rw [HN.out, if_pos rfl, Int.natCast_add]; rfl, by go_num, hb2⟩
            case measure => simp [intOf]; omega
          · have hxy2 : (x == y) = false := by rw [beq_eq_false_iff_ne]; exact hxy
            have HXY := Lib.hid hxy
            clear hxy
            go_wp2_with fail
            go_roundw
            case rel => exact ⟨k + 1, by omega, by rw [HN.out, if_neg HXY.out, Nat.add_zero], by go_num, hb2⟩
            case measure => simp [intOf]; omega
        · have hkn : k = n := by omega
          subst hkn
          have hE := eqs_le xs ys k
          have HM : Hid (∀ c, com xs ys k c ≤ k * c) := com_le xs ys k
          generalize eqs xs ys k = E at *
          go_wp2_with fail
          go_loopw [11, 13] (fun va vc wr => ∃ c : Nat, c ≤ C ∧ va = .int .i64 (com xs ys k c) ∧ vc = .int .i64 c ∧ Below w.heap.size w wr) (fun _ vc _ => C - (intOf vc).toNat)
          case atStart => exact ⟨0, by omega, rfl, rfl, hbr⟩
          case round =>
            clear hbr
            obtain ⟨c, hc, rfl, rfl, hbr⟩ := hrel
            by_cases hcl : c < C
            · go_wp2_with fail
              go_loopw [14, 15, 16] (fun va vb vj wr => ∃ j : Nat, j ≤ k ∧ va = .int .i64 (cnt xs c j) ∧ vb = .int .i64 (cnt ys c j) ∧ vj = .int .i64 j ∧ Below w.heap.size w wr) (fun _ _ vj _ => k - (intOf vj).toNat)
              case atStart => exact ⟨0, by omega, rfl, rfl, rfl, hbr⟩
              case round =>
                clear hbr
                obtain ⟨j, hj, rfl, rfl, rfl, hbr⟩ := hrel
                by_cases hjl : j < k
                · have hcx := (hbr.cell (p := ⟨g, off + j, none⟩) (World.block_lt_of_cell? w _ (HX.out j hjl))).trans (HX.out j hjl)
                  have hcy := (hbr.cell (p := ⟨g', off' + j, none⟩) (World.block_lt_of_cell? w _ (HY.out j hjl))).trans (HY.out j hjl)
                  have hb := cnt_le xs c j
                  have hb' := cnt_le ys c j
                  have HN : Hid (cnt xs c (j + 1) = cnt xs c j + if xs.getD j 0 = (c : Int) then 1 else 0) := rfl
                  have HN' : Hid (cnt ys c (j + 1) = cnt ys c j + if ys.getD j 0 = (c : Int) then 1 else 0) := rfl
                  have hi0 : (0 : Int) ≤ (j : Int) := by omega
                  have hi1 : (j : Int) < (k : Int) := by omega
                  generalize cnt xs c j = X at *
                  generalize cnt ys c j = Y at *
                  generalize xs.getD j 0 = x at *
                  generalize ys.getD j 0 = y at *
                  by_cases hx : x = (c : Int)
                  · subst hx
                    by_cases hy : y = (c : Int)
                    · subst hy
                      go_wp2_with fail
                      go_roundw
                      case rel => exact ⟨j + 1, by omega, by rw [HN.out, if_pos rfl, Int.natCast_add]; rfl, by rw [HN'.out, if_pos rfl, Int.natCast_add]; rfl, by go_num, hbr⟩
                      case measure => simp [intOf]; omega
                    · have hy2 : (y == (c : Int)) = false := by rw [beq_eq_false_iff_ne]; exact hy
                      have HY2 := Lib.hid hy
                      clear hy
                      go_wp2_with fail
                      go_roundw
                      case rel => exact ⟨j + 1, by omega, by rw [HN.out, if_pos rfl, Int.natCast_add]; rfl, by rw [HN'.out, if_neg HY2.out, Nat.add_zero], by go_num, hbr⟩
                      case measure => simp [intOf]; omega
                  · have hx2 : (x == (c : Int)) = false := by rw [beq_eq_false_iff_ne]; exact hx
                    have HX2 := Lib.hid hx
                    clear hx
                    by_cases hy : y = (c : Int)
                    · subst hy
                      go_wp2_with fail
                      go_roundw
                      case rel => exact ⟨j + 1, by omega, by rw [HN.out, if_neg HX2.out, Nat.add_zero], by rw [HN'.out, if_pos rfl, Int.natCast_add]; rfl, by go_num, hbr⟩
                      case measure => simp [intOf]; omega
                    · have hy2 : (y == (c : Int)) = false := by rw [beq_eq_false_iff_ne]; exact hy
                      have HY2 := Lib.hid hy
                      clear hy
                      go_wp2_with fail
                      go_roundw
                      case rel => exact ⟨j + 1, by omega, by rw [HN.out, if_neg HX2.out, Nat.add_zero], by rw [HN'.out, if_neg HY2.out, Nat.add_zero], by go_num, hbr⟩
                      case measure => simp [intOf]; omega
                · have hjk : j = k := by omega
                  subst hjk
                  have hM : com xs ys j c ≤ j * c := HM.out c
                  have hM2 : j * c ≤ 3 * 5 := Nat.mul_le_mul (by omega) (by omega)
                  have hb := cnt_le xs c j
                  have hb' := cnt_le ys c j
                  have HN : Hid (com xs ys j (c + 1) = com xs ys j c + min (cnt xs c j) (cnt ys c j)) := rfl
                  generalize com xs ys j c = M at *
                  generalize cnt xs c j = X at *
                  generalize cnt ys c j = Y at *
                  have hMb : M ≤ 15 := by omega
                  clear hM hM2
                  by_cases hXY : (Y : Int) < (X : Int)
                  · have HXY : Hid (min X Y = Y) := by show _ = _; omega
                    go_wp2_with fail
                    go_roundw
                    case rel => exact ⟨c + 1, by omega, by rw [HN.out, HXY.out, Int.natCast_add], by go_num, hbr⟩
                    case measure => simp [intOf]; omega
                  · have HXY : Hid (min X Y = X) := by show _ = _; omega
                    go_wp2_with fail
                    go_roundw
                    case rel => exact ⟨c + 1, by omega, by rw [HN.out, HXY.out, Int.natCast_add], by go_num, hbr⟩
                    case measure => simp [intOf]; omega
            · have hcC : c = C := by omega
              subst hcC
              have hM : com xs ys k c ≤ k * c := HM.out c
              have hM2 : k * c ≤ 3 * 5 := Nat.mul_le_mul (by omega) (by omega)
              generalize com xs ys k c = M at *
              have hMb : M ≤ 15 := by omega
              clear hM hM2
              go_wp2_with fail
              go_ret2
              exact ⟨rfl, hbr⟩
end Go.Proofs.Ytkkjgcpkimjfkaa
