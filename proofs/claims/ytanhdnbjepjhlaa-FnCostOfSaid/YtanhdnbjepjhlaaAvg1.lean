/- impl.LeastAverage. -/
import Derived.Test.YtanhdnbjepjhlaaProg
import Derived.Test.YtanhdnbjepjhlaaSort2
import Derived.Test.YtanhdnbjepjhlaaOften
import Derived.Test.YtanhdnbjepjhlaaTreeD
namespace Go.Proofs.Ytanhdnbjepjhlaa
open Go.RowKit

def LAv (xs : List Int) : Int := if OOk xs = true then huff xs.length xs else -1
theorem LAv_bad {xs : List Int} (h : OOk xs = false) : LAv xs = -1 := by unfold LAv; rw [h]; rfl
theorem LAv_ok {xs : List Int} (h : OOk xs = true) : LAv xs = huff xs.length xs := by unfold LAv; exact if_pos h

theorem sumL_bd : ∀ {xs : List Int} {b : Int}, (∀ x ∈ xs, 0 ≤ x ∧ x ≤ b) → 0 ≤ sumL xs ∧ sumL xs ≤ b * xs.length
  | [], _, _ => by simp [sumL]
  | x :: r, b, h => by
    have h1 := h x (by simp)
    have h2 := sumL_bd (xs := r) (b := b) (fun y hy => h y (by simp [hy]))
    simp only [sumL, List.length_cons]
    rw [show ((r.length + 1 : Nat) : Int) = (r.length : Int) + 1 by omega, Int.mul_add]
    omega
theorem OOk_sum {xs : List Int} (h : OOk xs = true) : (∀ x ∈ xs, 0 ≤ x) ∧ sumL xs ≤ 900 ∧ 1 ≤ xs.length ∧ xs.length ≤ 9 := by
  unfold OOk at h
  simp only [Bool.and_eq_true, decide_eq_true_eq] at h
  have h1 := AllB_iff.1 h.2
  have h2 := sumL_bd h1
  refine ⟨fun x hx => (h1 x hx).1, ?_, h.1.1, h.1.2⟩
  have : (100 : Int) * (xs.length : Int) ≤ 900 := by omega
  omega
theorem sumL_append : ∀ (l : List Int) (x : Int), sumL (l ++ [x]) = sumL l + x
  | [], x => by simp [sumL]
  | y :: r, x => by simp only [List.cons_append, sumL, sumL_append r x]; omega

/-- where the merging stands: what is left, and what has come up -/
structure Mrg (S H : Int) (n : Nat) (cur : List Int) (sum : Int) : Prop where
  tot : sum + huff cur.length cur = H
  nn : ∀ x ∈ cur, 0 ≤ x
  all : sumL cur = S
  len1 : 1 ≤ cur.length
  len2 : cur.length ≤ n
  lo : 0 ≤ sum
  hi : sum ≤ 900 * ((n : Int) - cur.length)

theorem sumL_nn : ∀ {l : List Int}, (∀ x ∈ l, 0 ≤ x) → 0 ≤ sumL l
  | [], _ => by simp [sumL]
  | y :: r, h => by
    have h1 := h y (by simp)
    have h2 := sumL_nn (l := r) (fun z hz => h z (by simp [hz]))
    simp only [sumL]; omega
theorem Mrg.start {xs : List Int} (h : OOk xs = true) : Mrg (sumL xs) (huff xs.length xs) xs.length xs 0 := by
  obtain ⟨h1, h2, h3, h4⟩ := OOk_sum h
  exact ⟨by omega, h1, rfl, h3, Nat.le_refl _, by omega, by omega⟩
theorem Mrg.done {S H : Int} {n : Nat} {cur : List Int} {sum : Int} (h : Mrg S H n cur sum) (h1 : cur.length ≤ 1) : sum = H := by
  have := h.tot
  rw [huff_short h1] at this
  omega
theorem Mrg.next {S H : Int} {n : Nat} {cur : List Int} {sum : Int} (h : Mrg S H n cur sum) (hS : S ≤ 900) {a b : Int} {r : List Int} (hs : isort cur = a :: b :: r) (l : List Int) (hl : l.Perm (r ++ [a + b])) :
    Mrg S H n l (sum + (a + b)) ∧ l.length + 1 = cur.length ∧ 0 ≤ a ∧ 0 ≤ b ∧ a + b ≤ 900 := by
  have hp := isort_perm cur
  rw [hs] at hp
  have hlen := hp.length_eq
  simp only [List.length_cons] at hlen
  have hll := hl.length_eq
  simp only [List.length_append, List.length_cons, List.length_nil] at hll
  have hnn : ∀ x ∈ a :: b :: r, 0 ≤ x := fun x hx => h.nn x (hp.mem_iff.1 hx)
  have ha := hnn a (by simp)
  have hb := hnn b (by simp)
  have hr := sumL_nn (l := r) (fun x hx => hnn x (by simp [hx]))
  have hsum := sumL_perm hp
  simp only [sumL] at hsum
  have hall := h.all
  refine ⟨⟨?_, ?_, ?_, by omega, by have := h.len2; omega, by have := h.lo; omega, ?_⟩, by omega, ha, hb, by omega⟩
  · have ht := h.tot
    rw [show cur.length = l.length + 1 by omega, huff_step hs] at ht
    rw [huff_congr _ hl]
    omega
  · intro x hx
    rcases List.mem_append.1 (hl.mem_iff.1 hx) with hx | hx
    · exact hnn x (by simp [hx])
    · simp at hx; omega
  · rw [sumL_perm hl, sumL_append]; omega
  · have := h.hi
    have e : ((l.length : Nat) : Int) = (cur.length : Int) - 1 := by omega
    rw [e]
    omega

def sliceLen : Value → Nat
  | .slice _ n _ => n
  | _ => 0

set_option maxHeartbeats 4000000 in
theorem impl_LeastAverage (v : Value) (xs : List Int) (w : World) (h : Rd w v xs) :
    Calls Try.prog 8 #[v] w fun e w' => e = .returned (.int .i64 (LAv xs)) ∧ Below w.heap.size w w' := by
  have k0 := Lib.hid (impl_OftenOk v xs w h)
  cases hok : OOk xs with
  | false =>
    rw [LAv_bad hok]
    rw [hok] at k0
    clear h hok
    go_enter Try.func8, Try.ntmps8
    go_wp2_with fail
    refine k0.out.mono ?_
    rintro e w1 ⟨rfl, hb1⟩
    go_wp2_with fail
    go_ret
    exact ⟨rfl, hb1⟩
  | true =>
    rw [LAv_ok hok]
    rw [hok] at k0
    obtain ⟨_, hS, hl1, hl2⟩ := OOk_sum hok
    have HST := Lib.hid (Mrg.start hok)
    have HR := Lib.hid h
    generalize sumL xs = S at *
    generalize huff xs.length xs = H at *
    have hxl : xs.length ≤ 1048576 := by omega
    have hx0 : 0 < xs.length := by omega
    clear h hok
    go_enter Try.func8, Try.ntmps8
    go_wp2_with fail
    refine k0.out.mono ?_
    rintro e w1 ⟨rfl, hb1⟩
    go_wp2_with fail
    refine (clone_owns _ xs _ (HR.out.below hb1) hxl).mono ?_
    rintro e w2 ⟨u, rfl, hown2, hb2⟩
    obtain ⟨g0, cap0, rfl, ho0, hcm0⟩ := OwL.of_row hown2 hx0
    have hb3 := hb1.trans (hb2.mono hb1.size)
    have ho1 := ho0.mono hb1.size
    clear hb1 hb2 hown2 ho0 HR k0
    go_wp2_with fail
    go_loopw [3, 4] (fun vl vs wr => ∃ (g off cap : Nat) (cur : List Int) (sum : Int), vl = .slice (some ⟨g, off, none⟩) cur.length cap ∧ vs = .int .i64 sum ∧ OwL wr w.heap.size g off cap cur ∧ cap ≤ maxLen ∧ Below w.heap.size w wr ∧ Hid (Mrg S H xs.length cur sum)) (fun vl _ _ => sliceLen vl)
    case atStart => exact ⟨g0, 0, cap0, xs, 0, rfl, rfl, ho1, hcm0, hb3, HST.out⟩
    case round =>
      clear ho1 hb3 HST
      obtain ⟨g, off, cap, cur, sum, rfl, rfl, ho, hcm, hb, hm⟩ := hrel
      obtain ⟨_, _, _, hc1, hc2, hlo, hhi⟩ := hm.out
      by_cases hgt : 1 < cur.length
      · obtain ⟨m, hme⟩ : ∃ m, cur.length = m + 2 := ⟨cur.length - 2, by omega⟩
        have hsl : (isort cur).length = m + 2 := by rw [(isort_perm cur).length_eq, hme]
        match hsi : isort cur, hsl with
        | a :: b :: r, hsl =>
          simp only [List.length_cons] at hsl
          have hrl : r.length = m := by omega
          obtain ⟨hnx, _, ha0, hb0, hab⟩ := hm.out.next hS hsi (r ++ [a + b]) (List.Perm.refl _)
          have HN := Lib.hid hnx
          have ks := Lib.hid (sort_any g off cap (m + 2) cur w.heap.size wr hme (by omega) ho)
          rw [hsi] at ks
          have hsz := hb.size
          have hc2' : m + 2 ≤ 9 := by omega
          rw [hme] at hhi ⊢
          have hhi' : sum ≤ 8100 := by omega
          have HRL := Lib.hid hrl
          have HB := Lib.hid hb
          clear hnx hm hgt hsi ho hhi hc1 hc2 hme hsl hrl hb
          go_wp2_with fail
          refine ks.out.mono ?_
          rintro e w3 ⟨⟨v3, rfl⟩, ho3, hb3⟩
          have hca := ho3.cells 0 (by simp)
          have hcb := ho3.cells 1 (by simp)
          rw [show (a :: b :: r).getD 0 0 = a from rfl, Nat.add_zero] at hca
          rw [show (a :: b :: r).getD 1 0 = b from rfl] at hcb
          have hcap2 : m + 2 ≤ cap := by have := ho3.le; simp at this; have := HRL.out; omega
          have hw1 : IntKind.i64.wrap (a + b) = a + b := IntWalk.i64_in _ (by omega)
          have ho4 := ho3.cut 2
          rw [show (a :: b :: r).drop 2 = r from rfl] at ho4
          have HO4 := Lib.hid ho4
          have HB3 := Lib.hid (HB.out.trans hb3)
          clear ho3 ho4 hb3 HB ks
          go_wp2_with fail
          go_quiet (fail)
          generalize hw0 : w3.drewN _ = w4
          have HO5 := Lib.hid (show OwL w4 w.heap.size g (off + 2) (cap - 2) r by rw [← hw0]; exact HO4.out.drewN _)
          have HB4 := Lib.hid (show Below w.heap.size w w4 by rw [← hw0]; exact below_drewN HB3.out _)
          clear hw0 hca hcb hw1 HO4 HB3
          have hrl1 : r.length < 1000000000 := by have := HRL.out; omega
          have hcm2 : cap - 2 ≤ maxLen := by omega
          have hsz4 : w.heap.size ≤ w4.heap.size := HB4.out.size
          by_cases hc2e : cap = 2
          · subst hc2e
            have hr0 : r.length = 0 := by have := HRL.out; omega
            have hm0 : m = 0 := by omega
            subst hm0
            have HO6 := Lib.hid (show OwL w4 w.heap.size g off 0 r from ⟨HO5.out.base_le, by omega, HO5.out.lt, fun j hj => by omega, fun j hj => by omega⟩)
            go_wp2_with (first | (at_builtin; go_loud (refine wpList_append_mid _ rfl _ _ rfl w.heap.size g off 0 0 r (a + b) HO6.out HRL.out rfl rfl hrl1 (Nat.zero_le _) hsz4 ?_); intro g' off' cap' w5 ho5 hcm5 hb5))
            go_roundw
            case rel => exact ⟨g', off', cap', r ++ [a + b], sum + (a + b), by have := HRL.out; simp [this], by go_num, ho5, hcm5, HB4.out.trans hb5, HN.out⟩
            case measure => simp [sliceLen]
          · have hcge : ¬ cap = 2 := hc2e
            go_wp2_with (first | (at_builtin; (refine wpList_append_mid _ rfl _ _ rfl w.heap.size g (off + 2) (cap - 2) m r (a + b) HO5.out HRL.out rfl rfl hrl1 hcm2 hsz4 ?_); intro g' off' cap' w5 ho5 hcm5 hb5))
            go_roundw
            case rel => exact ⟨g', off', cap', r ++ [a + b], sum + (a + b), by have := HRL.out; simp [this], by go_num, ho5, hcm5, HB4.out.trans hb5, HN.out⟩
            case measure => simp [sliceLen]
      · have hdone := hm.out.done (by omega)
        have HD := Lib.hid hdone
        clear hm hdone
        go_wp2_with fail
        go_ret
        exact ⟨ret_int HD.out, hb⟩
end Go.Proofs.Ytanhdnbjepjhlaa
